/- The chapter's functions, walked by the abstract machine: plain lemmas, no condition. Printed by a program from longer texts: names made short. -/
import Derived.Test.YtkehcalakofigaaGreatDoorM5
import Derived.Test.YtkehcalakofigaaGreatDoorM3
import Derived.Test.YtkehcalakofigaaGreatDoorM4
import Derived.Shelf.Strings.Search3
import Derived.Shelf.SlIter.Nil
import Derived.Shelf.SortM.Plain
import Derived.Shelf.SortM.SortNone
import Derived.MakeChecks
import Derived.Shelf.Vars
import Derived.Lay
import Derived.LaidLaws
import Derived.Lib.LaidTab
import Derived.Lib.LaidU8T
import Derived.Test.YtkehcalakofigaaGreatDoorRows
set_option linter.unusedSectionVars false
set_option linter.unusedSimpArgs false
set_option linter.unusedVariables false
namespace Go.Proofs.YtkehcalakofigaaGreatDoor
open Go aS
inductive aL where
 | mk (k n a:Int) (s:List UInt8) (l:List aL)
namespace aL
def k:aL→Int | mk k _ _ _ _=>k
def n:aL→Int | mk _ n _ _ _=>n
def a:aL→Int | mk _ _ a _ _=>a
def s:aL→List UInt8 | mk _ _ _ s _=>s
def l:aL→List aL | mk _ _ _ _ l=>l
end aL
mutual
def aL.size:aL→Nat
 | .mk _ _ _ _ l=>1+dD l
def dD:List aL→Nat
 | []=>0
 | t::l=>t.size+dD l
end
theorem tc {t:aL}:∀{l:List aL},t ∈ l→t.size≤dD l
 | [],h=>by cases h
 | u::l,h=>by
   simp only [dD]
   rcases List.mem_cons.1 h with rfl | h
   · omega
   · have:=tc h;omega
theorem rh {t u:aL} (h:u ∈ t.l):u.size<t.size:=by
 cases t with
 | mk k n a s l=>have:=tc h;simp only [aL.size];simp only [aL.l] at this;omega
theorem p2:∀l:List aL,l.length≤dD l
 | []=>Nat.le_refl _
 | t::l=>by have:=p2 l;have:1≤t.size:=by (cases t;simp only [aL.size];omega)
            simp only [dD,List.length_cons];omega
theorem ri (t:aL):1≤t.size:=by cases t;simp only [aL.size];omega
mutual
def aL.enc:aL→List D
 | .mk k n a s l=>[.i .i64 k,.i .i64 n,.i .i64 a,.s s,.l 5 (BN l)]
def BN:List aL→List (List D)
 | []=>[]
 | t::l=>t.enc::BN l
end
theorem OO:∀l:List aL,BN l=l.map aL.enc
 | []=>rfl
 | t::l=>by rw [BN,OO l,List.map_cons]
theorem ys (t:aL):t.enc=[.i .i64 t.k,.i .i64 t.n,.i .i64 t.a,.s t.s,.l 5 (t.l.map aL.enc)]:=by
 cases t with
 | mk k n a s l=>simp only [aL.enc,OO,aL.k,aL.n,aL.a,aL.s,aL.l]
mutual
def aL.pre:aL→List aL
 | .mk k n a s l=>.mk k n a s l::gk l
def gk:List aL→List aL
 | []=>[]
 | t::l=>t.pre++gk l
end
theorem HK (t:aL):t.pre=t::gk t.l:=by cases t;simp only [aL.pre,aL.l]
theorem HM:∀l m:List aL,gk (l++m)=gk l++gk m
 | [],m=>rfl
 | t::l,m=>by rw [List.cons_append,gk,gk,HM l m,List.append_assoc]
mutual
theorem HL:∀t:aL,t.pre.length=t.size
 | .mk k n a s l=>by rw [aL.pre,aL.size,List.length_cons,HN l,Nat.add_comm]
theorem HN:∀l:List aL,(gk l).length=dD l
 | []=>rfl
 | t::l=>by rw [gk,dD,List.length_append,HL t,HN l]
end
mutual
def aL.deep:aL→Nat
 | .mk _ _ _ _ l=>hx l+1
def hx:List aL→Nat
 | []=>0
 | t::l=>max t.deep (hx l)
end
section
variable {F:aO→Prop} {h:af} [Lay]
theorem aL.open {t:aL} {ad:List V} (H:b9 F h t.enc ad):∃cH,ad=[.int .i64 t.k,.int .i64 t.n,.int .i64 t.a,.str t.s,cH]∧ch F h 5 (t.l.map aL.enc) cH∧t.s.length≤top:=by
 rw [ys] at H
 obtain ⟨_,rfl,H1⟩:=H.int
 obtain ⟨_,rfl,cG⟩:=H1.int
 obtain ⟨_,rfl,CQ⟩:=cG.int
 obtain ⟨_,rfl,aQ,CR⟩:=CQ.str
 obtain ⟨cH,_,rfl,L,CS⟩:=CR.e8
 obtain rfl:=CS.no
 exact ⟨cH,rfl,L,aQ⟩
theorem aL.k9 {l:List aL} {v:V} (H:ch F h 5 (l.map aL.enc) v) {k:IntKind} {i:Nat} (az:i<l.length):
 ∃b off cH,jj 5 v (.int k i)=some (.ptr b (off+i * 5))∧b9 F h l[i].enc [.int .i64 l[i].k,.int .i64 l[i].n,.int .i64 l[i].a,.str l[i].s,cH]∧ch F h 5 (l[i].l.map aL.enc) cH∧
  ∀ab,Ext h ab→lO 5 (ab.get b) (off+i * 5)=some (.agg [.int .i64 l[i].k,.int .i64 l[i].n,.int .i64 l[i].a,.str l[i].s,cH]):=by
 obtain ⟨b,off,u,aN,aY,cz,gq,_⟩:=H.at (k:=k) (i:=i) (by rw [List.length_map];exact az)
 rw [List.getElem_map] at aY
 obtain ⟨cH,rfl,L,_⟩:=aL.open aY
 exact ⟨b,off,cH,aN,aY,L,gq⟩
end
end Go.Proofs.YtkehcalakofigaaGreatDoor
namespace Go.Proofs.YtkehcalakofigaaGreatDoor
open Go aS Go.RowKit
theorem wG {w:World} {p:Addr} {v:Value} (h:w.cell? p=some v):p.block<w.heap.size:=by
 unfold World.cell? at h
 by_cases q:p.block<w.heap.size
 · exact q
 · rw [Array.getElem?_eq_none (by omega)] at h
   cases h
def tC (w:World) (g:Nat):Prop:=∃aW,w.cell? ⟨g,0,none⟩=some aW∧(aW=.nilIface∨∃agz ON,aW=.iface agz ON)
theorem tC.e5 {w aj:World} {g:Nat} (h:tC w g) (ag:Below w.heap.size w aj):tC aj g:=by
 obtain ⟨aW,aa,ae⟩:=h
 exact ⟨aW,by rw [ag.cell (wG aa)];exact aa,ae⟩
structure C6 (w:World):Prop where
 QB:Lib.Utf8Tabs 0 1 w
 maxLen:∃m,w.cell? ⟨2,0,none⟩=some (.int .i64 m)
 K9:tC w 4
noncomputable instance lay:Lay where
 ok w:=C6 w
 e5:=by
  intro w aj h ag
  refine ⟨?_,?_,h.K9.e5 ag⟩
  · obtain ⟨aa,ae⟩:=h.QB
    refine ⟨fun c ao=>?_,fun i az=>?_⟩
    · rw [ag.cell (wG (aa c ao))]
      exact aa c ao
    · obtain ⟨aq,av⟩:=ae i az
      rw [ag.cell (wG aq),ag.cell (wG av)]
      exact ⟨aq,av⟩
  · obtain ⟨m,q⟩:=h.maxLen
    exact ⟨m,by rw [ag.cell (wG q)];exact q⟩
section
open Go.Shelf
def Tryz.acH:Go.Shelf.Ren:=⟨fun | 144=>120 | 143=>124 | 219=>132 | 217=>103 | 225=>137 | 224=>138 | 267=>139 | 266=>114 | 314=>141 | n=>n,fun | 9=>9 | 4=>4 | 3=>3 | 5=>5 | 46=>80 | 146=>98 | 51=>97 | n=>n,fun | 1=>2 | n=>n⟩
theorem Tryz.acG:Go.Proofs.Lays.n144 Tryz.prog Tryz.acH:={
 mixed:=by kernel_rfl,
 f143:=Tryz.func124.trans (congrArg some (by kernel_rfl)),
 f144:=Tryz.func120.trans (congrArg some (by kernel_rfl)),
 f217:=Tryz.func103.trans (congrArg some (by kernel_rfl)),
 f219:=Tryz.func132.trans (congrArg some (by kernel_rfl)),
 f224:=Tryz.func138.trans (congrArg some (by kernel_rfl)),
 f225:=Tryz.func137.trans (congrArg some (by kernel_rfl)),
 f266:=Tryz.func114.trans (congrArg some (by kernel_rfl)),
 f267:=Tryz.func139.trans (congrArg some (by kernel_rfl)),
 f314:=Tryz.func141.trans (congrArg some (by kernel_rfl)),
 t3:=Tryz.underlying3,
 a3:=Tryz.isAgg3,
 z3:=Tryz.sizeOf3,
 v3:=Tryz.zeroValue3,
 t4:=Tryz.underlying4,
 a4:=Tryz.isAgg4,
 z4:=Tryz.sizeOf4,
 v4:=Tryz.zeroValue4,
 t5:=Tryz.underlying5,
 a5:=Tryz.isAgg5,
 z5:=Tryz.sizeOf5,
 v5:=Tryz.zeroValue5,
 t9:=Tryz.underlying9,
 a9:=Tryz.isAgg9,
 z9:=Tryz.sizeOf9,
 v9:=Tryz.zeroValue9,
 t46:=Tryz.underlying80,
 a46:=Tryz.isAgg80,
 z46:=Tryz.sizeOf80,
 v46:=Tryz.zeroValue80,
 t51:=Tryz.underlying97,
 a51:=Tryz.isAgg97,
 z51:=Tryz.sizeOf97,
 v51:=Tryz.zeroValue97,
 t146:=Tryz.underlying98,
 a146:=Tryz.isAgg98,
 z146:=Tryz.sizeOf98,
 v146:=Tryz.zeroValue98,
 g1:=by kernel_rfl}
def Tryz.Nj:Go.Shelf.Ren:=⟨fun | 7=>44 | 10=>58 | n=>n,fun | 23=>55 | 26=>9 | 3=>4 | 28=>60 | 0=>0 | 27=>59 | 33=>75 | 4=>4 | n=>n,fun | n=>n⟩
theorem Tryz.abJ:Go.Proofs.SlLaysZ.n7 Tryz.prog Tryz.Nj where
 mixed:=by kernel_rfl
 f7:=⟨"maps.Keys[map[string]bool,string,bool]",by decide,Tryz.func44.trans (congrArg some (by kernel_rfl))⟩
 f10:=⟨"maps.Keys[map[string]bool,string,bool]$1",by decide,Tryz.func58.trans (congrArg some (by kernel_rfl))⟩
 t0:=Tryz.underlying0
 a0:=Tryz.isAgg0
 z0:=Tryz.sizeOf0
 v0:=Tryz.zeroValue0
 t4:=Tryz.underlying4
 a4:=Tryz.isAgg4
 z4:=Tryz.sizeOf4
 v4:=Tryz.zeroValue4
 t23:=Tryz.underlying55
 a23:=Tryz.isAgg55
 z23:=Tryz.sizeOf55
 v23:=Tryz.zeroValue55
 t26:=Tryz.underlying9
 a26:=Tryz.isAgg9
 z26:=Tryz.sizeOf9
 v26:=Tryz.zeroValue9
 t27:=Tryz.underlying59
 a27:=Tryz.isAgg59
 z27:=Tryz.sizeOf59
 v27:=Tryz.zeroValue59
 t28:=Tryz.underlying60
 a28:=Tryz.isAgg60
 z28:=Tryz.sizeOf60
 v28:=Tryz.zeroValue60
 t33:=Tryz.underlying75
 a33:=Tryz.isAgg75
 z33:=Tryz.sizeOf75
 v33:=Tryz.zeroValue75
def Tryz.P8:Go.Shelf.Ren:=⟨fun | 6=>43 | 8=>56 | 9=>57 | 11=>68 | 13=>70 | 12=>69 | 23=>89 | 24=>90 | 14=>80 | 15=>81 | 16=>82 | 17=>83 | 18=>84 | 19=>85 | 20=>86 | 21=>87 | 22=>88 | 25=>96 | 26=>97 | 27=>98 | 28=>99 | 29=>100 | 30=>101 | 31=>112 | n=>n,fun | 26=>9 | 28=>60 | 24=>39 | 0=>0 | 3=>3 | 37=>80 | 48=>97 | 50=>100 | 4=>4 | 40=>107 | 39=>106 | 45=>112 | 5=>5 | 9=>9 | 51=>122 | 55=>126 | 57=>131 | 58=>132 | 33=>75 | n=>n,fun | n=>n⟩
theorem Tryz.af6:Go.Proofs.SlLaysZ.n6 Tryz.prog Tryz.P8 where
 mixed:=by kernel_rfl
 f6:=⟨"slices.Sorted[string]",by decide,Tryz.func43.trans (congrArg some (by kernel_rfl))⟩
 f8:=⟨"slices.Collect[string]",by decide,Tryz.func56.trans (congrArg some (by kernel_rfl))⟩
 f11:=⟨"slices.AppendSeq[[]string,string]",by decide,Tryz.func68.trans (congrArg some (by kernel_rfl))⟩
 t0:=Tryz.underlying0
 a0:=Tryz.isAgg0
 z0:=Tryz.sizeOf0
 v0:=Tryz.zeroValue0
 t24:=Tryz.underlying39
 a24:=Tryz.isAgg39
 z24:=Tryz.sizeOf39
 v24:=Tryz.zeroValue39
 t26:=Tryz.underlying9
 a26:=Tryz.isAgg9
 z26:=Tryz.sizeOf9
 v26:=Tryz.zeroValue9
 t28:=Tryz.underlying60
 a28:=Tryz.isAgg60
 z28:=Tryz.sizeOf60
 v28:=Tryz.zeroValue60
 i26:=by kernel_rfl
def Tryz.af4:Go.Shelf.Ren:=⟨fun | 6=>57 | 8=>70 | 9=>69 | 19=>89 | 20=>90 | 21=>80 | 22=>81 | 23=>82 | 24=>83 | 25=>84 | 26=>85 | 27=>86 | 28=>87 | 29=>88 | 36=>96 | 31=>97 | 32=>98 | 37=>99 | 38=>100 | 39=>101 | 41=>112 | n=>n,fun | 27=>39 | 29=>9 | 3=>3 | 32=>80 | 26=>39 | 0=>0 | 44=>97 | 46=>100 | 4=>4 | 36=>107 | 35=>106 | 41=>112 | 5=>5 | 9=>9 | 53=>122 | 57=>126 | 63=>131 | 64=>132 | n=>n,fun | n=>n⟩
theorem Tryz.P5:Go.Proofs.SlLaysM.n6 Tryz.prog Tryz.af4 where
 mixed:=by kernel_rfl
 f6:=⟨"slices.Sort[[]string,string]",by decide,Tryz.func57.trans (congrArg some (by kernel_rfl))⟩
 f8:=Tryz.func70.trans (congrArg some (by kernel_rfl))
 f9:=⟨"slices.pdqsortOrdered[string]",by decide,Tryz.func69.trans (congrArg some (by kernel_rfl))⟩
 f19:=Tryz.func89.trans (congrArg some (by kernel_rfl))
 f20:=Tryz.func90.trans (congrArg some (by kernel_rfl))
 f21:=⟨"slices.insertionSortOrdered[string]",by decide,Tryz.func80.trans (congrArg some (by kernel_rfl))⟩
 f22:=⟨"slices.heapSortOrdered[string]",by decide,Tryz.func81.trans (congrArg some (by kernel_rfl))⟩
 f23:=⟨"slices.breakPatternsOrdered[string]",by decide,Tryz.func82.trans (congrArg some (by kernel_rfl))⟩
 f24:=⟨"slices.choosePivotOrdered[string]",by decide,Tryz.func83.trans (congrArg some (by kernel_rfl))⟩
 f25:=⟨"slices.reverseRangeOrdered[string]",by decide,Tryz.func84.trans (congrArg some (by kernel_rfl))⟩
 f26:=⟨"slices.partialInsertionSortOrdered[string]",by decide,Tryz.func85.trans (congrArg some (by kernel_rfl))⟩
 f27:=⟨"cmp.Less[string]",by decide,Tryz.func86.trans (congrArg some (by kernel_rfl))⟩
 f28:=⟨"slices.partitionEqualOrdered[string]",by decide,Tryz.func87.trans (congrArg some (by kernel_rfl))⟩
 f29:=⟨"slices.partitionOrdered[string]",by decide,Tryz.func88.trans (congrArg some (by kernel_rfl))⟩
 f31:=Tryz.func97.trans (congrArg some (by kernel_rfl))
 f32:=Tryz.func98.trans (congrArg some (by kernel_rfl))
 f36:=⟨"slices.siftDownOrdered[string]",by decide,Tryz.func96.trans (congrArg some (by kernel_rfl))⟩
 f37:=⟨"slices.medianAdjacentOrdered[string]",by decide,Tryz.func99.trans (congrArg some (by kernel_rfl))⟩
 f38:=⟨"slices.medianOrdered[string]",by decide,Tryz.func100.trans (congrArg some (by kernel_rfl))⟩
 f39:=⟨"cmp.isNaN[string]",by decide,Tryz.func101.trans (congrArg some (by kernel_rfl))⟩
 f41:=⟨"slices.order2Ordered[string]",by decide,Tryz.func112.trans (congrArg some (by kernel_rfl))⟩
 t0:=Tryz.underlying0
 a0:=Tryz.isAgg0
 z0:=Tryz.sizeOf0
 v0:=Tryz.zeroValue0
 t3:=Tryz.underlying3
 a3:=Tryz.isAgg3
 z3:=Tryz.sizeOf3
 v3:=Tryz.zeroValue3
 t4:=Tryz.underlying4
 a4:=Tryz.isAgg4
 z4:=Tryz.sizeOf4
 v4:=Tryz.zeroValue4
 t5:=Tryz.underlying5
 a5:=Tryz.isAgg5
 z5:=Tryz.sizeOf5
 v5:=Tryz.zeroValue5
 t9:=Tryz.underlying9
 a9:=Tryz.isAgg9
 z9:=Tryz.sizeOf9
 v9:=Tryz.zeroValue9
 t26:=Tryz.underlying39
 a26:=Tryz.isAgg39
 z26:=Tryz.sizeOf39
 v26:=Tryz.zeroValue39
 t27:=Tryz.underlying39
 a27:=Tryz.isAgg39
 z27:=Tryz.sizeOf39
 v27:=Tryz.zeroValue39
 t29:=Tryz.underlying9
 a29:=Tryz.isAgg9
 z29:=Tryz.sizeOf9
 v29:=Tryz.zeroValue9
 t32:=Tryz.underlying80
 a32:=Tryz.isAgg80
 z32:=Tryz.sizeOf80
 v32:=Tryz.zeroValue80
 t35:=Tryz.underlying106
 a35:=Tryz.isAgg106
 z35:=Tryz.sizeOf106
 v35:=Tryz.zeroValue106
 t36:=Tryz.underlying107
 a36:=Tryz.isAgg107
 z36:=Tryz.sizeOf107
 v36:=Tryz.zeroValue107
 t41:=Tryz.underlying112
 a41:=Tryz.isAgg112
 z41:=Tryz.sizeOf112
 v41:=Tryz.zeroValue112
 t44:=Tryz.underlying97
 a44:=Tryz.isAgg97
 z44:=Tryz.sizeOf97
 v44:=Tryz.zeroValue97
 t46:=Tryz.underlying100
 a46:=Tryz.isAgg100
 z46:=Tryz.sizeOf100
 v46:=Tryz.zeroValue100
 t53:=Tryz.underlying122
 a53:=Tryz.isAgg122
 z53:=Tryz.sizeOf122
 v53:=Tryz.zeroValue122
 t57:=Tryz.underlying126
 a57:=Tryz.isAgg126
 z57:=Tryz.sizeOf126
 v57:=Tryz.zeroValue126
 t63:=Tryz.underlying131
 a63:=Tryz.isAgg131
 z63:=Tryz.sizeOf131
 v63:=Tryz.zeroValue131
 t64:=Tryz.underlying132
 a64:=Tryz.isAgg132
 z64:=Tryz.sizeOf132
 v64:=Tryz.zeroValue132
theorem Kw (s sub:ByteArray) (m:Int) (w:World) (aQ:s.size<4294967281) (hm:w.cell? ⟨2,0,none⟩=some (.int .i64 m)):
 Calls Tryz.prog 120 #[.string s,.string sub] w fun e aj=>e=.returned (.bool (Lib.contains s.data.toList sub.data.toList))∧aj=w:=Any.strings_Contains Tryz.acG s sub m w aQ hm
end
section
open Go.RowKit Go.Maps Go.Sort Go.Shelf
theorem af_ (m:Nat):AnyZ.SortsIn Tryz.prog Tryz.P8 Fence.wide m:=
 ⟨fun a_ off cap ez W jf hZ b5=>callsIn_wide.2 (AnyM.slices_Sort_string Tryz.P5 a_ off cap ez W jf hZ b5),
  fun p cap W=>callsIn_wide.2 (AnyM.slices_Sort_string_none Tryz.P5 p cap W)⟩
theorem P9:aS.C_ Tryz.prog 43 58 9:=by
 intro rH b Hk qo R w X9 pw fq pD Yu
 have ZG:SeqGives Fence.wide 2 Tryz.prog 58 #[.pointer (some ⟨rH,0,none⟩)] encStr (fun ez=>ez.Perm (strKeys qo)) (Maps.size qo) w:=
  AnyZ.keys_gives (ρ:=Tryz.Nj) {Tryz.abJ with} Fence.wide _ trivial rfl (by omega) rH b Hk qo w X9 pw fq
 have En:=AnyZ.sorted_in Tryz.af6 Fence.wide 5 trivial trivial trivial trivial rfl (by omega) (af_ _) (enters_of Tryz.func57 (by kernel_rfl) rfl) 58 #[.pointer (some ⟨rH,0,none⟩)] trivial (enters_of Tryz.func58 (by kernel_rfl) rfl) _ _ pD Yu _ ZG
 change CallsIn _ _ Tryz.prog 43 _ _ _ at En
 exact callsIn_wide.1 (En.mono fun e aj q=>by
  obtain ⟨v,ez,rfl,dP,Gk,uQ,ag⟩:=q
  exact ⟨v,ez,rfl,dP,Gk,uQ,ag⟩)
end
noncomputable def ctx:Ctx:=⟨Tryz.prog,fun f=>bif Nat.beq f 120 then some Ex else bif Nat.beq f 43 then some (Ih 58) else none,fun f=>bif Nat.beq f 114 then some A9 else none⟩
theorem follows:Tryz.prog.follows .mixedOrders=true:=by kernel_rfl
theorem names:(Tryz.prog.funcs.toList.all fun fn=>!(fn.name == "runtime.NumGoroutine"))=true:=by kernel_rfl
theorem dq:dU Tryz.prog:=by
 intro f fn h
 have:=List.all_eq_true.1 names fn (List.mem_of_getElem? (i:=f) (by simpa using h))
 simpa using this
theorem HP:mN ctx:=by
 refine ⟨fun f p args h v ab ah he=>?_,fun f p args h v ab ah he au E w xs ak s=>?_⟩
 · simp only [ctx,fY] at ah
   by_cases ax:f=120
   · rw [if_pos ax] at ah
     cases ah
     subst ax
     obtain ⟨s,sub,rfl,aQ,rfl,rfl⟩:=V3 he
     refine ⟨⟨_,Tryz.func120,by kernel_rfl⟩,acv fun E xs w ai ak=>?_⟩
     obtain ⟨y,b',rfl,aq,z,fX,rfl,av,rfl⟩:=ak
     simp only [Rel] at aq av
     subst aq av
     obtain ⟨m,hm⟩:=ai.maxLen
     refine (Kw ⟨⟨s⟩⟩ ⟨⟨sub⟩⟩ m w (by show s.length<4294967281;omega) hm).mono fun e aj q=>?_
     obtain ⟨rfl,rfl⟩:=q
     exact ⟨_,rfl,by simp only [Rel],Below.refl _ _⟩
   · rw [if_neg ax] at ah
     by_cases ax:f=43
     · rw [if_pos ax] at ah
       cases ah
       subst ax
       exact ⟨⟨_,Tryz.func43,by kernel_rfl⟩,fun au E w xs ak s=>af7 (by decide) Tryz.underlying9 P9 he au E w xs ak s⟩
     · rw [if_neg ax] at ah;cases ah
 · simp only [ctx,fY] at ah
   by_cases ax:f=114
   · rw [if_pos ax] at ah
     cases ah
     subst ax
     exact aao (P:=Tryz.prog) Tryz.func114 (by kernel_rfl) (by kernel_rfl) (by kernel_rfl) (by kernel_rfl) he au E w xs ak s
   · rw [if_neg ax] at ah;cases ah
end Go.Proofs.YtkehcalakofigaaGreatDoor
namespace Go.Proofs.YtkehcalakofigaaGreatDoor
open Go aS
abbrev al (d bj:Nat):bA:=⟨some d,.dp (.t bj),none,[bj]⟩
abbrev bT (d bj:Nat):bA:=⟨some d,.fS (.t bj),none,[bj]⟩
abbrev da (d bj:Nat):bA:=⟨some d,.q8 (.t bj),none,[bj]⟩
abbrev dd (d bj:Nat):bA:=⟨some d,.im 5 (.t bj),none,[bj]⟩
abbrev dT (d bj bm:Nat):bA:=⟨some d,.dp (.t bj),(some (bm,true)),[bj,bm]⟩
abbrev dy (d bj bm:Nat):bA:=⟨some d,.pick (.t bj) (.t bm) (.c (.bool false)),none,[bj,bm]⟩
abbrev ei (d:Nat):bA:=⟨some d,.dp (.c (.bool false)),none,[]⟩
abbrev er (d bj:Nat):bA:=⟨some d,.fw 1 (.t bj),none,[bj]⟩
abbrev eI (d bj:Nat):bA:=⟨some d,.len .slice (.t bj),none,[bj]⟩
abbrev e_ (d:Nat):bA:=⟨some d,.dp (.c (.int .i64 0)),none,[]⟩
abbrev fm (d bj:Nat):bA:=⟨some d,.bin (.int .add) (.t bj) (.c (.int .i64 1)),none,[bj]⟩
abbrev gm (d bj:Nat):bA:=⟨some d,.fw 0 (.t bj),none,[bj]⟩
abbrev gJ (d bj bm:Nat):bA:=⟨some d,.bin (.int .lss) (.t bj) (.t bm),none,[bj,bm]⟩
abbrev gX (d bj bm:Nat):bA:=⟨some d,.fS (.t bj),(some (bm,true)),[bj,bm]⟩
abbrev hj (d bj bm:Nat):bA:=⟨some d,.pick (.t bj) (.c (.bool true)) (.t bm),none,[bj,bm]⟩
abbrev hk (d bj:Nat):bA:=⟨some d,.box (.t bj),none,[bj]⟩
abbrev iz (d bj bm:Nat):bA:=⟨some d,.dp (.t bj),(some (bm,false)),[bj,bm]⟩
abbrev jA (d bj bm:Nat):bA:=⟨some d,.c0 5 (.t bj) (.t bm),none,[bj,bm]⟩
abbrev jB (d:Nat):bA:=⟨some d,.new [(.int .i64 0),(.int .i64 0),(.int .i64 0),(.str []),.b4],none,[]⟩
abbrev jC (d bj:Nat):bA:=⟨some d,.fw 4 (.t bj),none,[bj]⟩
abbrev j8 (d bj:Nat):bA:=⟨some d,.len .str (.t bj),none,[bj]⟩
abbrev kH (d bj bm:Nat):bA:=⟨some d,.im 5 (.t bj),(some (bm,true)),[bj,bm]⟩
abbrev kI (d:Nat):bA:=⟨some d,.dp (.c .b4),none,[]⟩
abbrev lq (d bj:Nat):bA:=⟨some d,.fw 2 (.t bj),none,[bj]⟩
abbrev l1 (d bj bm:Nat):bA:=⟨some d,.im 5 (.t bj),(some (bm,false)),[bj,bm]⟩
abbrev mM (d bj bm:Nat):bA:=⟨some d,.c0 1 (.t bj) (.t bm),none,[bj,bm]⟩
abbrev oY (d bj bm:Nat):bA:=⟨some d,.fS (.t bj),(some (bm,false)),[bj,bm]⟩
abbrev qq (d bj:Nat):bA:=⟨some d,.iC 1 5 [(.int .i64 0),(.int .i64 0),(.int .i64 0),(.str []),.b4] [(0,5,(.t bj))],none,[bj]⟩
abbrev qs (d bj:Nat):bA:=⟨some d,.un .not (.t bj),none,[bj]⟩
abbrev qt (d bj:Nat):bA:=⟨some d,.fw 3 (.t bj),none,[bj]⟩
abbrev rN (d bj bm:Nat):bA:=⟨some d,.fw 1 (.t bj),(some (bm,true)),[bj,bm]⟩
abbrev rO (d bj:Nat):bA:=⟨some d,.ext (.t bj) 0,none,[bj]⟩
abbrev rP (d bj:Nat):bA:=⟨some d,.ext (.t bj) 1,none,[bj]⟩
abbrev tF (d bj bm fu:Nat):bA:=⟨some d,.bin (.int .eql) (.t bj) (.t bm),(some (fu,true)),[bj,bm,fu]⟩
abbrev tG (d bj bm:Nat):bA:=⟨some d,.bin (.int .add) (.t bj) (.t bm),none,[bj,bm]⟩
abbrev tH (d bj bm:Nat):bA:=⟨some d,.q8 (.t bj),(some (bm,true)),[bj,bm]⟩
abbrev wa (d bj bm:Nat):bA:=⟨some d,.bin (.int .neq) (.t bj) (.t bm),none,[bj,bm]⟩
abbrev wb (d bj bm:Nat):bA:=⟨some d,.bin (.int .eql) (.t bj) (.t bm),none,[bj,bm]⟩
abbrev wc (d bj bm:Nat):bA:=⟨some d,.c0 5 (.t bj) (.c (.int .i64 0)),(some (bm,true)),[bj,bm]⟩
abbrev we (d:Nat):bA:=⟨some d,.dp (.c (.bool true)),none,[]⟩
abbrev wg (d bj bm:Nat):bA:=⟨some d,.fw 3 (.t bj),(some (bm,true)),[bj,bm]⟩
abbrev wh (d bj bm:Nat):bA:=⟨some d,.bin (.int .sub) (.t bj) (.t bm),none,[bj,bm]⟩
abbrev wi (d bj bm:Nat):bA:=⟨some d,.bin (.int .geq) (.t bj) (.t bm),none,[bj,bm]⟩
abbrev wj (d:Nat):bA:=⟨some d,.new [(.int .i64 0),(.int .i64 0),(.int .i64 0),(.str [])],none,[]⟩
abbrev zc (d bj bm:Nat):bA:=⟨some d,.call 15 [(.t bj)],(some (bm,false)),[bj,bm]⟩
abbrev zd (d:Nat):bA:=⟨some d,.dp (.c (.int .i64 1)),none,[]⟩
abbrev ze (d bj bm:Nat):bA:=⟨some d,.un .not (.t bj),(some (bm,false)),[bj,bm]⟩
abbrev zf (d bj bm:Nat):bA:=⟨some d,.fw 4 (.t bj),(some (bm,true)),[bj,bm]⟩
abbrev zg (d bj bm:Nat):bA:=⟨some d,.app 1 (.t bj) (.t bm),none,[bj,bm]⟩
abbrev zh (d bj bm:Nat):bA:=⟨some d,.kO (.t bj) [(.t bm)],none,[bj,bm]⟩
abbrev zi (d bj:Nat):bA:=⟨some d,.bin (.int .eql) (.t bj) (.c (.int .i64 0)),none,[bj]⟩
abbrev zj (d bj bm:Nat):bA:=⟨some d,.c0 4 (.t bj) (.c (.int .i64 0)),(some (bm,true)),[bj,bm]⟩
abbrev zk (d bj bm:Nat):bA:=⟨some d,.fw 0 (.t bj),(some (bm,true)),[bj,bm]⟩
abbrev CU (d bj bm fu:Nat):bA:=⟨some d,.bin (.int .neq) (.t bj) (.t bm),(some (fu,false)),[bj,bm,fu]⟩
abbrev CV (d bj bm:Nat):bA:=⟨some d,.bin (.int .add) (.t bj) (.c (.int .i64 1)),(some (bm,true)),[bj,bm]⟩
abbrev CW (d bj bm fu:Nat):bA:=⟨some d,.call 24 [(.t bj),(.t bm)],(some (fu,true)),[bj,bm,fu]⟩
abbrev CX (d bj bm fu:Nat):bA:=⟨some d,.bin (.int .gtr) (.t bj) (.t bm),(some (fu,false)),[bj,bm,fu]⟩
abbrev CY (d bj bm fu:Nat):bA:=⟨some d,.bin (.str .eql) (.t bj) (.t bm),(some (fu,true)),[bj,bm,fu]⟩
abbrev CZ (d bj:Nat):bA:=⟨some d,.bin (.int .eql) (.t bj) (.c (.int .i64 1)),none,[bj]⟩
abbrev C0 (d bj:Nat):bA:=⟨some d,.bin (.int .eql) (.t bj) (.c (.int .i64 3)),none,[bj]⟩
abbrev C1 (d bj:Nat):bA:=⟨some d,.bin (.int .eql) (.t bj) (.c (.int .i64 5)),none,[bj]⟩
abbrev C2 (d bj:Nat):bA:=⟨some d,.bin (.int .geq) (.t bj) (.c (.int .i64 0)),none,[bj]⟩
abbrev C3 (d bj bm:Nat):bA:=⟨some d,.oM (.t bj) (some (.t bm)) none none,none,[bj,bm]⟩
abbrev C4 (d:Nat):bA:=⟨some d,.build [(.int .i64 0),(.int .i64 0),(.int .i64 0),(.str [])] [],none,[]⟩
abbrev Ja (d bj bm:Nat):bA:=⟨some d,.iC 2 5 [(.int .i64 0),(.int .i64 0),(.int .i64 0),(.str []),.b4] [(0,5,(.t bj)),(5,5,(.t bm))],none,[bj,bm]⟩
abbrev Jb (d bj:Nat):bA:=⟨some d,.build [(.int .i64 0),(.int .i64 0),(.int .i64 0),(.str [])] [(0,1,(.c (.int .i64 7))),(3,1,(.t bj))],none,[bj]⟩
def Ul:bF:=
 .seq (.seq (.aE [al 15 4,al 16 0,eI 17 16,gJ 18 15 17])
 (.cond (.t 18)
 (.skip)
 (.exit 0)))
 (.seq (.block 1 (.seq (.draw [al 21 3,al 22 4,jA 23 21 22,dd 24 23,al 26 0,al 27 4,jA 28 26 27,dd 29 28,⟨some 25,.call 13 [(.t 24)],none,[24]⟩,⟨some 30,.call 14 [(.t 29)],none,[29]⟩,wa 31 25 30,al 32 31,iz 33 3 32,iz 34 4 32,⟨some 35,.c0 5 (.t 33) (.t 34),(some (32,false)),[33,34,32]⟩,l1 36 35 32,iz 38 0 32,iz 39 4 32,⟨some 40,.c0 5 (.t 38) (.t 39),(some (32,false)),[38,39,32]⟩,l1 41 40 32,zc 37 36 32,⟨some 42,.call 16 [(.t 41)],(some (32,false)),[41,32]⟩,CU 43 37 42 32,hj 44 32 43] [(3,[8]),(7,[8,9]),(15,[20]),(19,[20,21])])
 (.cond (.t 44)
 (.seq (.aE [ei 2])
 (.ret))
 (.skip))))
 (.aE [al 19 4,fm 20 19,al 4 20]))
def c3:bF:=
 .seq (.aE [ei 2])
 (.seq (.seq (.aE [al 5 0,⟨some 6,.call 8 [(.t 5),(.c (.int .i64 400))],none,[5]⟩])
 (.cond (.t 6)
 (.seq (.aE [⟨some 7,.call 9 [],none,[]⟩,al 2 7])
 (.ret))
 (.skip)))
 (.seq (.aE [al 8 0,⟨some 9,.call 10 [(.t 8)],none,[8]⟩,al 3 9])
 (.seq (.seq (.aE [al 10 3,⟨some 11,.call 11 [(.t 10)],none,[10]⟩,al 12 0,⟨some 13,.call 12 [(.t 12)],none,[12]⟩,wa 14 11 13])
 (.cond (.t 14)
 (.seq (.aE [ei 2])
 (.ret))
 (.skip)))
 (.seq (.seq (.aE [e_ 4])
 (.block 0 (.loop Ul)))
 (.seq (.aE [al 45 3,al 46 0,⟨some 47,.call 17 [(.t 45),(.t 46)],none,[45,46]⟩,al 48 47,⟨some 49,.call 9 [],(some (48,true)),[48]⟩,dy 50 48 49,al 2 50])
 (.ret))))))
def UG:bF:=
 .seq (.seq (.aE [al 18 7,al 19 5,gJ 20 18 19])
 (.cond (.t 20)
 (.skip)
 (.exit 0)))
 (.seq (.block 1 (.seq (.aE [e_ 8])
 (.seq (.seq (.aE [al 23 1,eI 24 23,⟨some 25,.bin (.int .gtr) (.t 24) (.c (.int .i64 0)),none,[24]⟩])
 (.cond (.t 25)
 (.aE [al 26 1,al 27 7,al 28 1,eI 29 28,⟨some 30,.bin (.int .rem) (.t 27) (.t 29),none,[27,29]⟩,mM 31 26 30,bT 32 31,⟨some 33,.call 18 [(.t 32),(.c (.int .i64 3))],none,[32]⟩,al 8 33])
 (.skip)))
 (.draw [⟨some 34,.iC 3 1 [(.int .i64 0)] [(0,1,(.c (.int .i64 39))),(1,1,(.c (.int .i64 36))),(2,1,(.c (.int .i64 34)))],none,[]⟩,al 35 8,mM 36 34 35,bT 37 36,dd 38 6,qq 39 38,⟨some 40,.build [(.int .i64 0),(.int .i64 0),(.int .i64 0),(.str []),.b4] [(0,1,(.t 37)),(4,1,(.t 39))],none,[37,39]⟩,⟨none,.st 5 (.t 6) (.t 40),none,[6,40]⟩] [(3,[7]),(4,[7])]))))
 (.aE [al 21 7,fm 22 21,al 7 22]))
def g':bF:=
 .seq (.aE [ei 4])
 (.seq (.seq (.aE [al 10 1,eI 11 10,⟨some 12,.bin (.int .gtr) (.t 11) (.c (.int .i64 20)),none,[11]⟩])
 (.cond (.t 12)
 (.seq (.aE [⟨some 13,.call 9 [],none,[]⟩,al 4 13])
 (.ret))
 (.skip)))
 (.seq (.aE [al 14 0,⟨some 15,.call 18 [(.t 14),(.c (.int .i64 15))],none,[14]⟩,⟨some 16,.bin (.int .add) (.c (.int .i64 190)) (.t 15),none,[15]⟩,al 5 16])
 (.seq (.aE [⟨some 17,.build [(.int .i64 0),(.int .i64 0),(.int .i64 0),(.str []),.b4] [(0,1,(.c (.int .i64 22)))],none,[]⟩,jB 6,⟨none,.st 5 (.t 6) (.t 17),none,[6,17]⟩])
 (.seq (.seq (.aE [zd 7])
 (.block 0 (.loop UG)))
 (.seq (.aE [⟨some 41,.build [(.int .i64 0),(.int .i64 0),(.int .i64 0),(.str []),.b4] [(0,1,(.c (.int .i64 10)))],none,[]⟩,dd 42 6,Ja 43 41 42,⟨some 44,.build [(.int .i64 0),(.int .i64 0),(.int .i64 0),(.str []),.b4] [(0,1,(.c (.int .i64 52))),(4,1,(.t 43))],none,[43]⟩,qq 45 44,al 9 45])
 (.seq (.aE [al 46 9,⟨some 47,.call 11 [(.t 46)],none,[46]⟩,al 48 9,⟨some 49,.call 12 [(.t 48)],none,[48]⟩,wb 50 47 49,al 51 50,dT 52 9 51,wc 53 52 51,kH 54 53 51,⟨some 55,.call 13 [(.t 54)],(some (51,true)),[54,51]⟩,dT 56 5 51,CV 57 56 51,tF 58 55 57 51,dy 59 51 58,al 60 59,dT 61 9 60,wc 62 61 60,kH 63 62 60,⟨some 64,.call 15 [(.t 63)],(some (60,true)),[63,60]⟩,dT 65 5 60,⟨some 66,.bin (.int .add) (.t 65) (.c (.int .i64 2)),(some (60,true)),[65,60]⟩,tF 67 64 66 60,dy 68 60 67,al 69 68,⟨some 70,.call 9 [],(some (69,true)),[69]⟩,dy 71 69 70,al 4 71])
 (.ret)))))))
def c5:bF:=
 .seq (.aE [hk 2 0,hk 3 1,ei 4])
 (.seq (.seq (.aE [dd 8 2,dd 9 3,Ja 10 8 9,⟨some 11,.call 8 [(.t 10),(.c (.int .i64 300))],none,[10]⟩])
 (.cond (.t 11)
 (.seq (.aE [⟨some 12,.call 9 [],none,[]⟩,al 4 12])
 (.ret))
 (.skip)))
 (.seq (.aE [dd 13 2,qq 14 13,⟨some 15,.call 10 [(.t 14)],none,[14]⟩,al 5 15])
 (.seq (.aE [al 16 5,⟨some 17,.c0 5 (.t 16) (.c (.int .i64 0)),none,[16]⟩,dd 18 17,⟨some 19,.call 19 [(.t 18)],none,[18]⟩,jB 6,⟨none,.st 5 (.t 6) (.t 19),none,[6,19]⟩])
 (.seq (.draw [dd 20 6,dd 21 2,⟨some 22,.call 21 [(.t 21)],none,[21]⟩,⟨some 23,.call 20 [(.t 20),(.t 22)],none,[20,22]⟩,al 24 23,dT 25 5 24,wc 26 25 24,kH 27 26 24,kH 28 3 24,kH 30 2 24,kH 31 3 24,⟨some 29,.call 22 [(.t 27),(.t 28)],(some (24,true)),[27,28,24]⟩,⟨some 32,.call 23 [(.t 30),(.t 31)],(some (24,true)),[30,31,24]⟩,⟨some 33,.bin (.uk false) (.t 29) (.t 32),(some (24,true)),[29,32,24]⟩,dy 34 24 33,al 7 34] [(0,[2,3]),(1,[2]),(7,[11]),(8,[11]),(9,[11,12]),(10,[11,12])])
 (.seq (.draw [al 35 7,al 36 35,dT 37 5 36,wc 38 37 36,kH 39 38 36,kH 41 2 36,⟨some 40,.call 25 [(.t 39)],(some (36,true)),[39,36]⟩,⟨some 42,.call 26 [(.t 41)],(some (36,true)),[41,36]⟩,CW 43 40 42 36,dy 44 36 43,al 45 44,dT 46 5 45,wc 47 46 45,kH 48 47 45,kH 50 2 45,⟨some 49,.call 27 [(.t 48)],(some (45,true)),[48,45]⟩,⟨some 51,.call 28 [(.t 50)],(some (45,true)),[50,45]⟩,CW 52 49 51 45,dy 53 45 52,al 7 53] [(4,[6]),(5,[6,7]),(13,[15]),(14,[15,16])])
 (.seq (.aE [dd 54 6,qq 55 54,⟨some 56,.call 29 [(.t 55)],none,[55]⟩])
 (.seq (.aE [al 57 7,al 58 57,dT 59 5 58,kH 60 2 58,⟨some 61,.iC 1 5 [(.int .i64 0),(.int .i64 0),(.int .i64 0),(.str []),.b4] [(0,5,(.t 60))],(some (58,true)),[60,58]⟩,⟨some 62,.call 17 [(.t 59),(.t 61)],(some (58,true)),[59,61,58]⟩,dy 63 58 62,al 64 63,⟨some 65,.call 9 [],(some (64,true)),[64]⟩,dy 66 64 65,al 4 66])
 (.ret))))))))
def Kk:bF:=
 .seq (.seq (.aE [al 50 6,al 51 5,eI 52 51,gJ 53 50 52])
 (.cond (.t 53)
 (.skip)
 (.exit 0)))
 (.seq (.block 1 (.seq (.draw [al 56 5,al 57 6,⟨some 58,.bin (.int .sub) (.t 57) (.c (.int .i64 1)),none,[57]⟩,mM 59 56 58,bT 60 59,al 61 5,al 62 6,mM 63 61 62,bT 64 63,⟨some 65,.bin (.str .geq) (.t 60) (.t 64),none,[60,64]⟩] [])
 (.cond (.t 65)
 (.seq (.aE [ei 2])
 (.ret))
 (.skip))))
 (.aE [al 54 6,fm 55 54,al 6 55]))
def tY:bF:=
 .seq (.aE [hk 1 0,ei 2])
 (.seq (.aE [⟨some 10,.call 6 [],none,[]⟩,al 3 10])
 (.seq (.seq (.aE [dd 11 1,qq 12 11,⟨some 13,.call 8 [(.t 12),(.c (.int .i64 300))],none,[12]⟩])
 (.cond (.t 13)
 (.seq (.aE [al 14 3,al 2 14])
 (.ret))
 (.skip)))
 (.seq (.aE [dd 15 1,⟨some 16,.call 19 [(.t 15)],none,[15]⟩,jB 4,⟨none,.st 5 (.t 4) (.t 16),none,[4,16]⟩])
 (.seq (.seq (.draw [dd 17 1,dd 18 4,⟨some 19,.call 22 [(.t 17),(.t 18)],none,[17,18]⟩,qs 20 19,al 21 20,l1 22 4 21,l1 23 1 21,⟨some 24,.call 22 [(.t 22),(.t 23)],(some (21,false)),[22,23,21]⟩,ze 25 24 21,hj 26 21 25,al 27 26,l1 28 1 27,l1 30 4 27,⟨some 29,.call 13 [(.t 28)],(some (27,false)),[28,27]⟩,⟨some 31,.call 13 [(.t 30)],(some (27,false)),[30,27]⟩,CU 32 29 31 27,hj 33 27 32,al 34 33,l1 35 1 34,l1 37 4 34,zc 36 35 34,zc 38 37 34,CU 39 36 38 34,hj 40 34 39,al 41 40,l1 42 1 41,l1 44 1 41,⟨some 43,.call 13 [(.t 42)],(some (41,false)),[42,41]⟩,zc 45 44 41,CX 46 43 45 41,hj 47 41 46] [(0,[2]),(1,[2]),(5,[7]),(6,[7]),(11,[13]),(12,[13,14]),(18,[20]),(19,[20,21]),(25,[27]),(26,[27,28])])
 (.cond (.t 47)
 (.seq (.aE [ei 2])
 (.ret))
 (.skip)))
 (.seq (.aE [dd 48 4,⟨some 49,.call 27 [(.t 48)],none,[48]⟩,al 5 49])
 (.seq (.seq (.aE [zd 6])
 (.block 0 (.loop Kk)))
 (.seq (.draw [dd 66 1,qq 67 66,dd 69 4,qq 70 69,⟨some 68,.call 11 [(.t 67)],none,[67]⟩,⟨some 71,.call 11 [(.t 70)],none,[70]⟩,al 7 68,al 8 71] [(0,[4]),(2,[4,5])])
 (.seq (.draw [dd 72 1,dd 74 4,⟨some 73,.call 25 [(.t 72)],none,[72]⟩,⟨some 75,.call 25 [(.t 74)],none,[74]⟩,⟨some 76,.call 24 [(.t 73),(.t 75)],none,[73,75]⟩,al 77 76,dT 78 7 77,⟨some 79,.bin (.int .neq) (.t 78) (.c (.int .i64 0)),(some (77,true)),[78,77]⟩,dT 80 79 77,iz 81 8 80,⟨some 82,.bin (.int .eql) (.t 81) (.c (.int .i64 0)),(some (80,false)),[81,80]⟩,iz 83 82 80,kH 84 1 83,dT 86 5 83,⟨some 85,.call 27 [(.t 84)],(some (83,true)),[84,83]⟩,CW 87 85 86 83,⟨some 88,.pick (.t 83) (.t 87) (.c (.bool false)),(some (80,false)),[83,87,80]⟩,⟨some 89,.pick (.t 80) (.c (.bool true)) (.t 88),(some (77,true)),[80,88,77]⟩,dy 90 77 89,al 9 90] [(0,[2]),(1,[2,3]),(12,[14])])
 (.seq (.draw [al 91 3,al 92 91,dT 93 9 92,dy 94 92 93,al 95 94,kH 96 4 95,kH 98 4 95,⟨some 97,.call 19 [(.t 96)],(some (95,true)),[96,95]⟩,⟨some 99,.call 20 [(.t 97),(.t 98)],(some (95,true)),[97,98,95]⟩,dy 100 95 99,al 2 100] [(5,[7]),(6,[7,8])])
 (.ret))))))))))
theorem U8:cu Tryz.prog Tryz.f7.ntmps (Tryz.f7.body.getD .skip)=tY:=by kernel_rfl
theorem U9:c' Tryz.prog Tryz.f7.ntmps Tryz.f7.results.toList=[.t 2]:=by kernel_rfl
theorem U7 {args:List V} {h:af} {K:V→af→Prop} (ai:Nat.ble args.length 101=true) (H:cr Tryz.prog tY (aT.bq args) h fun e r ab=>e.ends∧∃ad,cX r ab [.t 2]=some ad∧K (oneOf ad) ab):bM Tryz.prog 7 args h K:=
 dO follows dq Tryz.func7 (c:=Tryz.f7.body.getD .skip) (by kernel_rfl) (by kernel_rfl) (by kernel_rfl) ai U8 U9 (by kernel_rfl) H
def tZ:bF:=
 .seq (.aE [ei 4])
 (.seq (.aE [al 5 0,al 6 1,⟨some 7,.call 33 [(.t 5),(.t 6)],none,[5,6]⟩,al 8 1,⟨some 9,.bin (.int .gtr) (.t 7) (.t 8),none,[7,8]⟩,al 4 9])
 (.ret))
theorem U_:cu Tryz.prog Tryz.f8.ntmps (Tryz.f8.body.getD .skip)=tZ:=by kernel_rfl
theorem Va:c' Tryz.prog Tryz.f8.ntmps Tryz.f8.results.toList=[.t 4]:=by kernel_rfl
theorem U' {args:List V} {h:af} {K:V→af→Prop} (ai:Nat.ble args.length 10=true) (H:cr Tryz.prog tZ (aT.bq args) h fun e r ab=>e.ends∧∃ad,cX r ab [.t 4]=some ad∧K (oneOf ad) ab):bM Tryz.prog 8 args h K:=
 dO follows dq Tryz.func8 (c:=Tryz.f8.body.getD .skip) (by kernel_rfl) (by kernel_rfl) (by kernel_rfl) ai U_ Va (by kernel_rfl) H
def J6:bF:=
 .seq (.aE [gJ 12 11 10])
 (.seq (.cond (.t 12)
 (.skip)
 (.exit 0))
 (.seq (.block 1 (.seq (.aE [jA 13 9 11,dd 14 13,jB 5,⟨none,.st 5 (.t 5) (.t 14),none,[5,14]⟩])
 (.seq (.aE [gm 15 5,bT 16 15,⟨some 17,.call 36 [(.t 16)],none,[16]⟩,⟨some 18,.bin (.int .neq) (.t 17) (.c (.int .i64 7)),none,[17]⟩,al 19 18,iz 20 3 19,l1 21 5 19,⟨some 22,.call 37 [(.t 20),(.t 21)],(some (19,false)),[20,21,19]⟩,ze 23 22 19,hj 24 19 23])
 (.cond (.t 24)
 (.seq (.aE [⟨some 2,.dp (.c (.int .i64 2)),none,[]⟩])
 (.ret))
 (.skip)))))
 (.aE [fm 25 11,al 11 25])))
def J7:bF:=
 .seq (.aE [gJ 29 28 27])
 (.seq (.cond (.t 29)
 (.skip)
 (.exit 2))
 (.seq (.block 3 (.seq (.aE [jA 30 26 28,dd 31 30,jB 7,⟨none,.st 5 (.t 7) (.t 31),none,[7,31]⟩])
 (.seq (.aE [dd 32 7,⟨some 33,.call 13 [(.t 32)],none,[32]⟩,⟨some 34,.bin (.int .gtr) (.t 33) (.c (.int .i64 200)),none,[33]⟩])
 (.cond (.t 34)
 (.seq (.aE [⟨some 2,.dp (.c (.int .i64 260)),none,[]⟩])
 (.ret))
 (.skip)))))
 (.aE [fm 35 28,al 28 35])))
def DK:bF:=
 .seq (.aE [e_ 2])
 (.seq (.aE [⟨some 8,.call 35 [],none,[]⟩,al 3 8])
 (.seq (.seq (.aE [al 9 0,eI 10 9,e_ 11])
 (.block 0 (.loop J6)))
 (.seq (.seq (.aE [al 26 0,eI 27 26,e_ 28])
 (.block 2 (.loop J7)))
 (.seq (.aE [e_ 2])
 (.ret)))))
theorem TL:cu Tryz.prog Tryz.f11.ntmps (Tryz.f11.body.getD .skip)=DK:=by kernel_rfl
theorem TM:c' Tryz.prog Tryz.f11.ntmps Tryz.f11.results.toList=[.t 2]:=by kernel_rfl
theorem TK {args:List V} {h:af} {K:V→af→Prop} (ai:Nat.ble args.length 36=true) (H:cr Tryz.prog DK (aT.bq args) h fun e r ab=>e.ends∧∃ad,cX r ab [.t 2]=some ad∧K (oneOf ad) ab):bM Tryz.prog 11 args h K:=
 dO follows dq Tryz.func11 (c:=Tryz.f11.body.getD .skip) (by kernel_rfl) (by kernel_rfl) (by kernel_rfl) ai TL TM (by kernel_rfl) H
def J8:bF:=
 .seq (.aE [gJ 10 9 8])
 (.seq (.cond (.t 10)
 (.skip)
 (.exit 0))
 (.seq (.block 1 (.seq (.aE [jA 11 7 9,dd 12 11,jB 5,⟨none,.st 5 (.t 5) (.t 12),none,[5,12]⟩])
 (.aE [al 13 3,dd 14 5,⟨some 15,.call 13 [(.t 14)],none,[14]⟩,⟨some 16,.dF [(.t 13),(.t 15)],none,[13,15]⟩,al 3 16])))
 (.aE [fm 17 9,al 9 17])))
def DQ:bF:=
 .seq (.aE [hk 1 0,e_ 2])
 (.seq (.aE [e_ 3])
 (.seq (.seq (.aE [jC 6 1,bT 7 6,eI 8 7,e_ 9])
 (.block 0 (.loop J8)))
 (.seq (.aE [al 18 3,fm 19 18,al 2 19])
 (.ret))))
theorem TO:cu Tryz.prog Tryz.f13.ntmps (Tryz.f13.body.getD .skip)=DQ:=by kernel_rfl
theorem TP:c' Tryz.prog Tryz.f13.ntmps Tryz.f13.results.toList=[.t 2]:=by kernel_rfl
theorem TN {args:List V} {h:af} {K:V→af→Prop} (ai:Nat.ble args.length 20=true) (H:cr Tryz.prog DQ (aT.bq args) h fun e r ab=>e.ends∧∃ad,cX r ab [.t 2]=some ad∧K (oneOf ad) ab):bM Tryz.prog 13 args h K:=
 dO follows dq Tryz.func13 (c:=Tryz.f13.body.getD .skip) (by kernel_rfl) (by kernel_rfl) (by kernel_rfl) ai TO TP (by kernel_rfl) H
def DS:bF:=
 .skip
def DT:bF:=
 .block 1 (.aE [bT 7 3,fm 8 7,⟨none,.st 1 (.t 3) (.t 8),none,[3,8]⟩])
def DR:bF:=
 .seq (.aE [hk 1 0,e_ 2])
 (.seq (.aE [⟨some 3,.new [(.int .i64 0)],none,[]⟩,⟨none,.st 1 (.t 3) (.c (.int .i64 0)),none,[3]⟩])
 (.seq (.seq (.aE [dd 4 1,⟨some 5,.call 40 [(.t 4)],none,[4]⟩])
 (.block 0 (bF.range (.t 5) [6] 10 DS DT)))
 (.seq (.aE [bT 9 3,al 2 9])
 (.ret))))
theorem TR:cu Tryz.prog Tryz.f15.ntmps (Tryz.f15.body.getD .skip)=DR:=by kernel_rfl
theorem TS:c' Tryz.prog Tryz.f15.ntmps Tryz.f15.results.toList=[.t 2]:=by kernel_rfl
theorem TQ {args:List V} {h:af} {K:V→af→Prop} (ai:Nat.ble args.length 10=true) (H:cr Tryz.prog DR (aT.bq args) h fun e r ab=>e.ends∧∃ae,oB (r dX).list ab=some ae∧∃ad,cX r ae [.t 2]=some ad∧K (oneOf ad) ae):bM Tryz.prog 15 args h K:=
 KD follows dq Tryz.func15 (c:=Tryz.f15.body.getD .skip) (by kernel_rfl) (by kernel_rfl) (by kernel_rfl) ai TR TS H
def J9:bF:=
 .seq (.seq (.aE [al 11 5,al 12 0,eI 13 12,gJ 14 11 13])
 (.cond (.t 14)
 (.skip)
 (.exit 0)))
 (.seq (.block 1 (.seq (.draw [al 17 0,al 18 5,jA 19 17 18,dd 20 19,al 21 1,al 22 5,jA 23 21 22,dd 24 23,⟨some 25,.call 20 [(.t 20),(.t 24)],none,[20,24]⟩,qs 26 25] [(3,[8]),(7,[8])])
 (.cond (.t 26)
 (.seq (.aE [ei 4])
 (.ret))
 (.skip))))
 (.aE [al 15 5,fm 16 15,al 5 16]))
def pb:bF:=
 .seq (.aE [ei 4])
 (.seq (.seq (.aE [al 6 0,eI 7 6,al 8 1,eI 9 8,wa 10 7 9])
 (.cond (.t 10)
 (.seq (.aE [ei 4])
 (.ret))
 (.skip)))
 (.seq (.seq (.aE [e_ 5])
 (.block 0 (.loop J9)))
 (.seq (.aE [we 4])
 (.ret))))
theorem TU:cu Tryz.prog Tryz.f17.ntmps (Tryz.f17.body.getD .skip)=pb:=by kernel_rfl
theorem TV:c' Tryz.prog Tryz.f17.ntmps Tryz.f17.results.toList=[.t 4]:=by kernel_rfl
theorem TT {args:List V} {h:af} {K:V→af→Prop} (ai:Nat.ble args.length 27=true) (H:cr Tryz.prog pb (aT.bq args) h fun e r ab=>e.ends∧∃ad,cX r ab [.t 4]=some ad∧K (oneOf ad) ab):bM Tryz.prog 17 args h K:=
 dO follows dq Tryz.func17 (c:=Tryz.f17.body.getD .skip) (by kernel_rfl) (by kernel_rfl) (by kernel_rfl) ai TU TV (by kernel_rfl) H
def J':bF:=
 .seq (.aE [gJ 17 16 15])
 (.seq (.cond (.t 17)
 (.skip)
 (.exit 0))
 (.seq (.block 1 (.seq (.aE [jA 18 14 16,dd 19 18,jB 5,⟨none,.st 5 (.t 5) (.t 19),none,[5,19]⟩])
 (.draw [jC 20 3,bT 21 20,dd 22 5,⟨some 23,.call 19 [(.t 22)],none,[22]⟩,qq 24 23,⟨some 25,.app 5 (.t 21) (.t 24),none,[21,24]⟩,jC 26 3,⟨none,.st 1 (.t 26) (.t 25),none,[26,25]⟩] [(1,[3,5]),(2,[3])])))
 (.aE [fm 27 16,al 16 27])))
def DU:bF:=
 .seq (.aE [hk 1 0,jB 2])
 (.seq (.aE [gm 6 1,bT 7 6,er 8 1,bT 9 8,qt 10 1,bT 11 10,⟨some 12,.build [(.int .i64 0),(.int .i64 0),(.int .i64 0),(.str []),.b4] [(0,1,(.t 7)),(1,1,(.t 9)),(3,1,(.t 11))],none,[7,9,11]⟩,jB 3,⟨none,.st 5 (.t 3) (.t 12),none,[3,12]⟩])
 (.seq (.seq (.aE [jC 13 1,bT 14 13,eI 15 14,e_ 16])
 (.block 0 (.loop J')))
 (.seq (.aE [dd 28 3,⟨none,.st 5 (.t 2) (.t 28),none,[2,28]⟩])
 (.ret))))
theorem TX:cu Tryz.prog Tryz.f19.ntmps (Tryz.f19.body.getD .skip)=DU:=by kernel_rfl
theorem TY:c' Tryz.prog Tryz.f19.ntmps Tryz.f19.results.toList=[.kP 2 5]:=by kernel_rfl
theorem TW {args:List V} {h:af} {K:V→af→Prop} (ai:Nat.ble args.length 29=true) (H:cr Tryz.prog DU (aT.bq args) h fun e r ab=>e.ends∧∃ad,cX r ab [.kP 2 5]=some ad∧K (oneOf ad) ab):bM Tryz.prog 19 args h K:=
 dO follows dq Tryz.func19 (c:=Tryz.f19.body.getD .skip) (by kernel_rfl) (by kernel_rfl) (by kernel_rfl) ai TX TY (by kernel_rfl) H
def DV:bF:=
 .seq (.aE [hk 2 0,hk 3 1,ei 4])
 (.seq (.aE [gm 5 2,bT 6 5,gm 7 3,bT 8 7,wb 9 6 8,al 10 9,rN 11 2 10,gX 12 11 10,rN 13 3 10,gX 14 13 10,tF 15 12 14 10,dy 16 10 15,al 17 16,⟨some 18,.fw 2 (.t 2),(some (17,true)),[2,17]⟩,gX 19 18 17,⟨some 20,.fw 2 (.t 3),(some (17,true)),[3,17]⟩,gX 21 20 17,tF 22 19 21 17,dy 23 17 22,al 24 23,wg 25 2 24,gX 26 25 24,wg 27 3 24,gX 28 27 24,CY 29 26 28 24,dy 30 24 29,al 31 30,zf 32 2 31,gX 33 32 31,zf 34 3 31,gX 35 34 31,⟨some 36,.call 17 [(.t 33),(.t 35)],(some (31,true)),[33,35,31]⟩,dy 37 31 36,al 4 37])
 (.ret))
theorem T0:cu Tryz.prog Tryz.f20.ntmps (Tryz.f20.body.getD .skip)=DV:=by kernel_rfl
theorem T1:c' Tryz.prog Tryz.f20.ntmps Tryz.f20.results.toList=[.t 4]:=by kernel_rfl
theorem TZ {args:List V} {h:af} {K:V→af→Prop} (ai:Nat.ble args.length 38=true) (H:cr Tryz.prog DV (aT.bq args) h fun e r ab=>e.ends∧∃ad,cX r ab [.t 4]=some ad∧K (oneOf ad) ab):bM Tryz.prog 20 args h K:=
 dO follows dq Tryz.func20 (c:=Tryz.f20.body.getD .skip) (by kernel_rfl) (by kernel_rfl) (by kernel_rfl) ai T0 T1 (by kernel_rfl) H
def DW:bF:=
 .seq (.aE [hk 2 0,hk 3 1,ei 4])
 (.seq (.aE [gm 5 2,bT 6 5,gm 7 3,bT 8 7,wb 9 6 8,al 10 9,rN 11 2 10,gX 12 11 10,rN 13 3 10,gX 14 13 10,tF 15 12 14 10,dy 16 10 15,al 17 16,wg 18 2 17,gX 19 18 17,wg 20 3 17,gX 21 20 17,CY 22 19 21 17,dy 23 17 22,al 24 23,zf 25 2 24,gX 26 25 24,zf 27 3 24,gX 28 27 24,⟨some 29,.call 41 [(.t 26),(.t 28),(.c (.func 22 []))],(some (24,true)),[26,28,24]⟩,dy 30 24 29,al 4 30])
 (.ret))
theorem T3:cu Tryz.prog Tryz.f22.ntmps (Tryz.f22.body.getD .skip)=DW:=by kernel_rfl
theorem T4:c' Tryz.prog Tryz.f22.ntmps Tryz.f22.results.toList=[.t 4]:=by kernel_rfl
theorem T2 {args:List V} {h:af} {K:V→af→Prop} (ai:Nat.ble args.length 31=true) (H:cr Tryz.prog DW (aT.bq args) h fun e r ab=>e.ends∧∃ad,cX r ab [.t 4]=some ad∧K (oneOf ad) ab):bM Tryz.prog 22 args h K:=
 dO follows dq Tryz.func22 (c:=Tryz.f22.body.getD .skip) (by kernel_rfl) (by kernel_rfl) (by kernel_rfl) ai T3 T4 (by kernel_rfl) H
def J_:bF:=
 .seq (.seq (.aE [al 11 5,al 12 0,eI 13 12,gJ 14 11 13])
 (.cond (.t 14)
 (.skip)
 (.exit 0)))
 (.seq (.block 1 (.seq (.draw [al 17 0,al 18 5,mM 19 17 18,bT 20 19,al 21 1,al 22 5,mM 23 21 22,bT 24 23,⟨some 25,.bin (.str .neq) (.t 20) (.t 24),none,[20,24]⟩] [])
 (.cond (.t 25)
 (.seq (.aE [ei 4])
 (.ret))
 (.skip))))
 (.aE [al 15 5,fm 16 15,al 5 16]))
def DX:bF:=
 .seq (.aE [ei 4])
 (.seq (.seq (.aE [al 6 0,eI 7 6,al 8 1,eI 9 8,wa 10 7 9])
 (.cond (.t 10)
 (.seq (.aE [ei 4])
 (.ret))
 (.skip)))
 (.seq (.seq (.aE [e_ 5])
 (.block 0 (.loop J_)))
 (.seq (.aE [we 4])
 (.ret))))
theorem T6:cu Tryz.prog Tryz.f24.ntmps (Tryz.f24.body.getD .skip)=DX:=by kernel_rfl
theorem T7:c' Tryz.prog Tryz.f24.ntmps Tryz.f24.results.toList=[.t 4]:=by kernel_rfl
theorem T5 {args:List V} {h:af} {K:V→af→Prop} (ai:Nat.ble args.length 26=true) (H:cr Tryz.prog DX (aT.bq args) h fun e r ab=>e.ends∧∃ad,cX r ab [.t 4]=some ad∧K (oneOf ad) ab):bM Tryz.prog 24 args h K:=
 dO follows dq Tryz.func24 (c:=Tryz.f24.body.getD .skip) (by kernel_rfl) (by kernel_rfl) (by kernel_rfl) ai T6 T7 (by kernel_rfl) H
def DZ:bF:=
 .aE [jB 4,⟨none,.st 5 (.t 4) (.t 7),none,[4,7]⟩]
def D0:bF:=
 .block 1 (.seq (.aE [gm 8 4,bT 9 8,⟨some 10,.bin (.int .eql) (.t 9) (.c (.int .i64 11)),none,[9]⟩])
 (.cond (.t 10)
 (.aE [bT 11 3,qt 12 4,bT 13 12,⟨some 14,.iC 1 1 [(.str [])] [(0,1,(.t 13))],none,[13]⟩,zg 15 11 14,⟨none,.st 1 (.t 3) (.t 15),none,[3,15]⟩])
 (.skip)))
def DY:bF:=
 .seq (.aE [hk 1 0,kI 2])
 (.seq (.aE [⟨some 3,.new [.b4],none,[]⟩])
 (.seq (.seq (.aE [dd 5 1,⟨some 6,.call 40 [(.t 5)],none,[5]⟩])
 (.block 0 (bF.range (.t 6) [7] 17 DZ D0)))
 (.seq (.aE [bT 16 3,al 2 16])
 (.ret))))
theorem T9:cu Tryz.prog Tryz.f25.ntmps (Tryz.f25.body.getD .skip)=DY:=by kernel_rfl
theorem T':c' Tryz.prog Tryz.f25.ntmps Tryz.f25.results.toList=[.t 2]:=by kernel_rfl
theorem T8 {args:List V} {h:af} {K:V→af→Prop} (ai:Nat.ble args.length 17=true) (H:cr Tryz.prog DY (aT.bq args) h fun e r ab=>e.ends∧∃ae,oB (r dX).list ab=some ae∧∃ad,cX r ae [.t 2]=some ad∧K (oneOf ad) ae):bM Tryz.prog 25 args h K:=
 KD follows dq Tryz.func25 (c:=Tryz.f25.body.getD .skip) (by kernel_rfl) (by kernel_rfl) (by kernel_rfl) ai T9 T' H
def Ka:bF:=
 .seq (.seq (.aE [al 7 6,al 8 0,eI 9 8,gJ 10 7 9,al 11 10,dT 12 5 11,dT 13 1 11,⟨some 14,.bin (.int .leq) (.t 12) (.t 13),(some (11,true)),[12,13,11]⟩,dy 15 11 14])
 (.cond (.t 15)
 (.skip)
 (.exit 0)))
 (.seq (.block 1 (.seq (.aE [al 18 5,fm 19 18,al 20 0,al 21 6,jA 22 20 21,qt 23 22,bT 24 23,j8 25 24,⟨some 26,.bin (.int .quo) (.t 25) (.c (.int .i64 100)),none,[25]⟩,tG 27 19 26,al 5 27])
 (.aE [al 28 5,al 29 0,al 30 6,jA 31 29 30,jC 32 31,bT 33 32,al 34 1,al 35 5,wh 36 34 35,⟨some 37,.call 33 [(.t 33),(.t 36)],none,[33,36]⟩,tG 38 28 37,al 5 38])))
 (.aE [al 16 6,fm 17 16,al 6 17]))
def D2:bF:=
 .seq (.aE [e_ 4])
 (.seq (.aE [e_ 5])
 (.seq (.seq (.aE [e_ 6])
 (.block 0 (.loop Ka)))
 (.seq (.aE [al 39 5,al 4 39])
 (.ret))))
theorem Ud:cu Tryz.prog Tryz.f33.ntmps (Tryz.f33.body.getD .skip)=D2:=by kernel_rfl
theorem Ue:c' Tryz.prog Tryz.f33.ntmps Tryz.f33.results.toList=[.t 4]:=by kernel_rfl
theorem Uc {args:List V} {h:af} {K:V→af→Prop} (ai:Nat.ble args.length 40=true) (H:cr Tryz.prog D2 (aT.bq args) h fun e r ab=>e.ends∧∃ad,cX r ab [.t 4]=some ad∧K (oneOf ad) ab):bM Tryz.prog 33 args h K:=
 dO follows dq Tryz.func33 (c:=Tryz.f33.body.getD .skip) (by kernel_rfl) (by kernel_rfl) (by kernel_rfl) ai Ud Ue (by kernel_rfl) H
def D3:bF:=
 .seq (.aE [e_ 2])
 (.seq (.block 0 (.seq (.aE [al 4 0,⟨some 5,.bin (.int .geq) (.t 4) (.c (.int .i64 1)),none,[4]⟩,al 6 5,dT 7 0 6,⟨some 8,.bin (.int .leq) (.t 7) (.c (.int .i64 4)),(some (6,true)),[7,6]⟩,dy 9 6 8,al 3 9])
 (.cond (.t 3)
 (.seq (.aE [zd 2])
 (.ret))
 (.seq (.aE [al 11 0,⟨some 12,.bin (.int .geq) (.t 11) (.c (.int .i64 10)),none,[11]⟩,al 13 12,dT 14 0 13,⟨some 15,.bin (.int .leq) (.t 14) (.c (.int .i64 16)),(some (13,true)),[14,13]⟩,dy 16 13 15,al 10 16])
 (.cond (.t 10)
 (.seq (.aE [⟨some 2,.dp (.c (.int .i64 2)),none,[]⟩])
 (.ret))
 (.seq (.aE [al 18 0,⟨some 19,.bin (.int .geq) (.t 18) (.c (.int .i64 20)),none,[18]⟩,al 20 19,dT 21 0 20,⟨some 22,.bin (.int .leq) (.t 21) (.c (.int .i64 39)),(some (20,true)),[21,20]⟩,dy 23 20 22,al 17 23])
 (.cond (.t 17)
 (.seq (.aE [⟨some 2,.dp (.c (.int .i64 3)),none,[]⟩])
 (.ret))
 (.seq (.aE [al 25 0,⟨some 26,.bin (.int .eql) (.t 25) (.c (.int .i64 45)),none,[25]⟩,al 24 26])
 (.cond (.t 24)
 (.seq (.aE [⟨some 2,.dp (.c (.int .i64 4)),none,[]⟩])
 (.ret))
 (.seq (.aE [al 28 0,⟨some 29,.bin (.int .eql) (.t 28) (.c (.int .i64 46)),none,[28]⟩,al 27 29])
 (.cond (.t 27)
 (.seq (.aE [⟨some 2,.dp (.c (.int .i64 5)),none,[]⟩])
 (.ret))
 (.seq (.aE [al 31 0,⟨some 32,.bin (.int .eql) (.t 31) (.c (.int .i64 47)),none,[31]⟩,al 30 32])
 (.cond (.t 30)
 (.seq (.aE [⟨some 2,.dp (.c (.int .i64 6)),none,[]⟩])
 (.ret))
 (.seq (.aE [al 34 0,⟨some 35,.bin (.int .geq) (.t 34) (.c (.int .i64 50)),none,[34]⟩,al 36 35,dT 37 0 36,⟨some 38,.bin (.int .leq) (.t 37) (.c (.int .i64 53)),(some (36,true)),[37,36]⟩,dy 39 36 38,al 33 39])
 (.cond (.t 33)
 (.seq (.aE [⟨some 2,.dp (.c (.int .i64 7)),none,[]⟩])
 (.ret))
 (.skip))))))))))))))))
 (.seq (.aE [e_ 2])
 (.ret)))
theorem Ug:cu Tryz.prog Tryz.f36.ntmps (Tryz.f36.body.getD .skip)=D3:=by kernel_rfl
theorem Uh:c' Tryz.prog Tryz.f36.ntmps Tryz.f36.results.toList=[.t 2]:=by kernel_rfl
theorem Uf {args:List V} {h:af} {K:V→af→Prop} (ai:Nat.ble args.length 40=true) (H:cr Tryz.prog D3 (aT.bq args) h fun e r ab=>e.ends∧∃ad,cX r ab [.t 2]=some ad∧K (oneOf ad) ab):bM Tryz.prog 36 args h K:=
 dO follows dq Tryz.func36 (c:=Tryz.f36.body.getD .skip) (by kernel_rfl) (by kernel_rfl) (by kernel_rfl) ai Ug Uh (by kernel_rfl) H
def Kb:bF:=
 .seq (.aE [gJ 88 87 86])
 (.seq (.cond (.t 88)
 (.skip)
 (.exit 0))
 (.seq (.block 1 (.seq (.aE [al 89 87,jA 90 85 87,dd 91 90,jB 10,al 9 89,⟨none,.st 5 (.t 10) (.t 91),none,[10,91]⟩])
 (.seq (.aE [er 92 5,bT 93 92,al 11 93])
 (.seq (.block 2 (.seq (.aE [al 95 9,al 96 7,eI 97 96,gJ 98 95 97,al 94 98])
 (.cond (.t 94)
 (.aE [al 99 7,al 100 9,mM 101 99 100,bT 102 101,al 11 102])
 (.seq (.aE [al 104 9,al 105 7,eI 106 105,al 107 8,tG 108 106 107,wi 109 104 108,al 103 109])
 (.cond (.t 103)
 (.aE [jC 110 5,bT 111 110,al 112 9,al 113 7,eI 114 113,wh 115 112 114,al 116 8,wh 117 115 116,mM 118 111 117,bT 119 118,al 11 119])
 (.skip))))))
 (.seq (.aE [dd 120 10,al 121 11,⟨some 122,.call 48 [(.t 120),(.t 121)],none,[120,121]⟩,qs 123 122,al 124 123,iz 125 0 124,l1 126 10 124,⟨some 127,.call 37 [(.t 125),(.t 126)],(some (124,false)),[125,126,124]⟩,ze 128 127 124,hj 129 124 128])
 (.cond (.t 129)
 (.seq (.aE [ei 4])
 (.ret))
 (.skip)))))))
 (.aE [fm 130 87,al 87 130])))
def D4:bF:=
 .seq (.aE [hk 3 1,ei 4])
 (.seq (.aE [al 13 0,gm 14 3,bT 15 14,⟨some 16,.look .int (.agg [.b4,(.int .i64 0),(.int .i64 0),(.int .i64 0),.b4,(.int .i64 0),(.int .i64 0),(.int .i64 0)]) true (.t 13) (.t 15),none,[13,15]⟩,al 12 16,rO 17 12,rP 18 12,⟨some 5,.new [.b4,(.int .i64 0),(.int .i64 0),(.int .i64 0),.b4,(.int .i64 0),(.int .i64 0),(.int .i64 0)],none,[]⟩,⟨none,.st 8 (.t 5) (.t 17),none,[5,17]⟩,al 6 18])
 (.seq (.seq (.aE [al 19 6,qs 20 19,al 21 20,⟨some 22,.fw 1 (.t 3),(some (21,false)),[3,21]⟩,oY 23 22 21,⟨some 24,.fw 5 (.t 5),(some (21,false)),[5,21]⟩,⟨some 25,.qU 2 1 (.t 24) (.c (.int .i64 0)),(some (21,false)),[24,21]⟩,oY 26 25 21,⟨some 27,.bin (.int .lss) (.t 23) (.t 26),(some (21,false)),[23,26,21]⟩,hj 28 21 27,al 29 28,⟨some 30,.fw 1 (.t 3),(some (29,false)),[3,29]⟩,oY 31 30 29,⟨some 32,.fw 5 (.t 5),(some (29,false)),[5,29]⟩,⟨some 33,.qU 2 1 (.t 32) (.c (.int .i64 1)),(some (29,false)),[32,29]⟩,oY 34 33 29,CX 35 31 34 29,hj 36 29 35,al 37 36,⟨some 38,.fw 2 (.t 3),(some (37,false)),[3,37]⟩,oY 39 38 37,⟨some 40,.bin (.int .lss) (.t 39) (.c (.int .i64 0)),(some (37,false)),[39,37]⟩,hj 41 37 40,al 42 41,⟨some 43,.fw 2 (.t 3),(some (42,false)),[3,42]⟩,oY 44 43 42,⟨some 45,.bin (.int .gtr) (.t 44) (.c (.int .i64 65536)),(some (42,false)),[44,42]⟩,hj 46 42 45,al 47 46,⟨some 48,.fw 7 (.t 5),(some (47,false)),[5,47]⟩,oY 49 48 47,⟨some 50,.fw 3 (.t 3),(some (47,false)),[3,47]⟩,oY 51 50 47,⟨some 52,.call 46 [(.t 49),(.t 51)],(some (47,false)),[49,51,47]⟩,ze 53 52 47,hj 54 47 53])
 (.cond (.t 54)
 (.seq (.aE [ei 4])
 (.ret))
 (.skip)))
 (.seq (.aE [gm 55 5,bT 56 55,al 7 56])
 (.seq (.seq (.aE [gm 57 3,bT 58 57,⟨some 59,.bin (.int .eql) (.t 58) (.c (.int .i64 50)),none,[58]⟩])
 (.cond (.t 59)
 (.aE [⟨some 60,.iC 1 1 [(.int .i64 0)] [(0,1,(.c (.int .i64 8)))],none,[]⟩,er 61 3,bT 62 61,⟨some 63,.call 47 [(.t 60),(.t 62)],none,[60,62]⟩,al 7 63])
 (.skip)))
 (.seq (.aE [jC 64 3,bT 65 64,eI 66 65,al 67 7,eI 68 67,wh 69 66 68,jC 70 5,bT 71 70,eI 72 71,wh 73 69 72,al 8 73])
 (.seq (.seq (.aE [al 74 8,lq 75 5,bT 76 75,gJ 77 74 76,al 78 77,iz 79 8 78,⟨some 80,.fw 3 (.t 5),(some (78,false)),[5,78]⟩,oY 81 80 78,CX 82 79 81 78,hj 83 78 82])
 (.cond (.t 83)
 (.seq (.aE [ei 4])
 (.ret))
 (.skip)))
 (.seq (.seq (.aE [jC 84 3,bT 85 84,eI 86 85,e_ 87])
 (.block 0 (.loop Kb)))
 (.seq (.aE [we 4])
 (.ret)))))))))
theorem Uj:cu Tryz.prog Tryz.f37.ntmps (Tryz.f37.body.getD .skip)=D4:=by kernel_rfl
theorem Uk:c' Tryz.prog Tryz.f37.ntmps Tryz.f37.results.toList=[.t 4]:=by kernel_rfl
theorem Ui {args:List V} {h:af} {K:V→af→Prop} (ai:Nat.ble args.length 131=true) (H:cr Tryz.prog D4 (aT.bq args) h fun e r ab=>e.ends∧∃ad,cX r ab [.t 4]=some ad∧K (oneOf ad) ab):bM Tryz.prog 37 args h K:=
 dO follows dq Tryz.func37 (c:=Tryz.f37.body.getD .skip) (by kernel_rfl) (by kernel_rfl) (by kernel_rfl) ai Uj Uk (by kernel_rfl) H
def D5:bF:=
 .seq (.aE [hk 1 0,⟨some 2,.dp (.c .iu),none,[]⟩])
 (.seq (.aE [⟨some 3,.fn 52 [(.t 1)],none,[1]⟩,al 2 3])
 (.ret))
theorem Un:cu Tryz.prog Tryz.f40.ntmps (Tryz.f40.body.getD .skip)=D5:=by kernel_rfl
theorem Uo:c' Tryz.prog Tryz.f40.ntmps Tryz.f40.results.toList=[.t 2]:=by kernel_rfl
theorem Um {args:List V} {h:af} {K:V→af→Prop} (ai:Nat.ble args.length 4=true) (H:cr Tryz.prog D5 (aT.bq args) h fun e r ab=>e.ends∧∃ad,cX r ab [.t 2]=some ad∧K (oneOf ad) ab):bM Tryz.prog 40 args h K:=
 dO follows dq Tryz.func40 (c:=Tryz.f40.body.getD .skip) (by kernel_rfl) (by kernel_rfl) (by kernel_rfl) ai Un Uo (by kernel_rfl) H
def D9:bF:=
 .seq (.aE [ei 4])
 (.seq (.seq (.aE [al 5 0])
 (.block 0 (.seq (.aE [CZ 7 5,al 6 7])
 (.cond (.t 6)
 (.seq (.aE [al 8 1,⟨some 9,.call 62 [(.c (.int .i64 3)),(.t 8)],none,[8]⟩,al 4 9])
 (.ret))
 (.seq (.aE [⟨some 11,.bin (.int .eql) (.t 5) (.c (.int .i64 2)),none,[5]⟩,al 10 11])
 (.cond (.t 10)
 (.seq (.aE [al 12 1,⟨some 13,.call 62 [(.c (.int .i64 4)),(.t 12)],none,[12]⟩,al 4 13])
 (.ret))
 (.seq (.aE [C0 15 5,al 14 15])
 (.cond (.t 14)
 (.seq (.aE [al 16 1,⟨some 17,.call 62 [(.c (.int .i64 5)),(.t 16)],none,[16]⟩,al 4 17])
 (.ret))
 (.seq (.aE [⟨some 19,.bin (.int .eql) (.t 5) (.c (.int .i64 4)),none,[5]⟩,al 18 19])
 (.cond (.t 18)
 (.seq (.aE [al 20 1,j8 21 20,⟨some 22,.bin (.int .leq) (.t 21) (.c (.int .i64 4096)),none,[21]⟩,al 4 22])
 (.ret))
 (.seq (.aE [C1 24 5,al 23 24])
 (.cond (.t 23)
 (.seq (.aE [⟨some 25,.iC 8 1 [(.str [])] [(0,1,(.c (.str [43]))),(1,1,(.c (.str [45]))),(2,1,(.c (.str [42]))),(3,1,(.c (.str [47]))),(4,1,(.c (.str [109,111,100]))),(5,1,(.c (.str [61]))),(6,1,(.c (.str [60]))),(7,1,(.c (.str [60,61])))],none,[]⟩,al 26 1,⟨some 27,.call 63 [(.t 25),(.t 26)],none,[25,26]⟩,al 4 27])
 (.ret))
 (.skip)))))))))))))
 (.seq (.aE [al 28 1,⟨some 29,.bin (.str .eql) (.t 28) (.c (.str [])),none,[28]⟩,al 4 29])
 (.ret)))
theorem Uy:cu Tryz.prog Tryz.f46.ntmps (Tryz.f46.body.getD .skip)=D9:=by kernel_rfl
theorem Uz:c' Tryz.prog Tryz.f46.ntmps Tryz.f46.results.toList=[.t 4]:=by kernel_rfl
theorem Ux {args:List V} {h:af} {K:V→af→Prop} (ai:Nat.ble args.length 30=true) (H:cr Tryz.prog D9 (aT.bq args) h fun e r ab=>e.ends∧∃ad,cX r ab [.t 4]=some ad∧K (oneOf ad) ab):bM Tryz.prog 46 args h K:=
 dO follows dq Tryz.func46 (c:=Tryz.f46.body.getD .skip) (by kernel_rfl) (by kernel_rfl) (by kernel_rfl) ai Uy Uz (by kernel_rfl) H
def Kd:bF:=
 .seq (.seq (.aE [al 34 8,al 35 7,eI 36 35,gJ 37 34 36])
 (.cond (.t 37)
 (.skip)
 (.exit 0)))
 (.block 1 (.draw [al 38 8,al 39 7,al 40 8,⟨some 41,.e8 1 (.t 39) (some (.t 40)) none none,none,[39,40]⟩,al 42 7,al 43 8,⟨some 44,.e8 1 (.t 42) none (some (.t 43)) none,none,[42,43]⟩,⟨some 45,.copy 1 (.t 41) (.t 44),none,[41,44]⟩,tG 46 38 45,al 8 46] []))
def D':bF:=
 .seq (.aE [kI 4])
 (.seq (.seq (.aE [al 9 1,⟨some 10,.bin (.int .lss) (.t 9) (.c (.int .i64 0)),none,[9]⟩])
 (.cond (.t 10)
 (.aE [⟨some 11,.pQ 9 (.c (.str [99,97,110,110,111,116,32,98,101,32,110,101,103,97,116,105,118,101])),none,[]⟩,⟨none,.bad,none,[11]⟩])
 (.skip)))
 (.seq (.aE [al 13 0,eI 14 13,⟨some 15,.ho (.int .u64) (.t 14),none,[14]⟩,al 16 1,⟨some 17,.ho (.int .u64) (.t 16),none,[16]⟩,⟨some 18,.call 64 [(.t 15),(.t 17)],none,[15,17]⟩,al 12 18,rO 19 12,rP 20 12,al 5 19,al 6 20])
 (.seq (.seq (.aE [al 21 5,⟨some 22,.bin (.int .gtr) (.t 21) (.c (.int .u64 0)),none,[21]⟩,al 23 22,iz 24 6 23,⟨some 25,.bin (.int .gtr) (.t 24) (.c (.int .u64 9223372036854775807)),(some (23,false)),[24,23]⟩,hj 26 23 25])
 (.cond (.t 26)
 (.aE [⟨some 27,.pQ 9 (.c (.str [116,104,101,32,114,101,115,117,108,116,32,111,102,32,40,108,101,110,40,120,41,32,42,32,99,111,117,110,116,41,32,111,118,101,114,102,108,111,119,115])),none,[]⟩,⟨none,.bad,none,[27]⟩])
 (.skip)))
 (.seq (.aE [al 28 6,⟨some 29,.ho (.int .i64) (.t 28),none,[28]⟩,⟨some 30,.vi 1 [(.int .i64 0)] (.t 29) (.t 29),none,[29,29]⟩,al 7 30])
 (.seq (.aE [al 31 7,al 32 0,⟨some 33,.copy 1 (.t 31) (.t 32),none,[31,32]⟩,al 8 33])
 (.seq (.block 0 (.loop Kd))
 (.seq (.aE [al 47 7,al 4 47])
 (.ret))))))))
theorem UB:cu Tryz.prog Tryz.f47.ntmps (Tryz.f47.body.getD .skip)=D':=by kernel_rfl
theorem UC:c' Tryz.prog Tryz.f47.ntmps Tryz.f47.results.toList=[.t 4]:=by kernel_rfl
theorem UA {args:List V} {h:af} {K:V→af→Prop} (ai:Nat.ble args.length 48=true) (H:cr Tryz.prog D' (aT.bq args) h fun e r ab=>e.ends∧∃ad,cX r ab [.t 4]=some ad∧K (oneOf ad) ab):bM Tryz.prog 47 args h K:=
 dO follows dq Tryz.func47 (c:=Tryz.f47.body.getD .skip) (by kernel_rfl) (by kernel_rfl) (by kernel_rfl) ai UB UC (by kernel_rfl) H
def D_:bF:=
 .seq (.aE [hk 2 0,ei 4])
 (.seq (.seq (.aE [al 5 1])
 (.block 0 (.seq (.aE [⟨some 7,.bin (.int .eql) (.t 5) (.c (.int .i64 8)),none,[5]⟩,al 6 7])
 (.cond (.t 6)
 (.seq (.aE [gm 8 2,bT 9 8,CZ 10 9,al 4 10])
 (.ret))
 (.seq (.aE [⟨some 12,.bin (.int .eql) (.t 5) (.c (.int .i64 9)),none,[5]⟩,al 11 12])
 (.cond (.t 11)
 (.seq (.aE [gm 13 2,bT 14 13,⟨some 15,.bin (.int .eql) (.t 14) (.c (.int .i64 27)),none,[14]⟩,al 4 15])
 (.ret))
 (.skip)))))))
 (.seq (.aE [gm 16 2,bT 17 16,⟨some 18,.call 36 [(.t 17)],none,[17]⟩,al 19 1,wb 20 18 19,al 4 20])
 (.ret)))
theorem UE:cu Tryz.prog Tryz.f48.ntmps (Tryz.f48.body.getD .skip)=D_:=by kernel_rfl
theorem UF:c' Tryz.prog Tryz.f48.ntmps Tryz.f48.results.toList=[.t 4]:=by kernel_rfl
theorem UD {args:List V} {h:af} {K:V→af→Prop} (ai:Nat.ble args.length 21=true) (H:cr Tryz.prog D_ (aT.bq args) h fun e r ab=>e.ends∧∃ad,cX r ab [.t 4]=some ad∧K (oneOf ad) ab):bM Tryz.prog 48 args h K:=
 dO follows dq Tryz.func48 (c:=Tryz.f48.body.getD .skip) (by kernel_rfl) (by kernel_rfl) (by kernel_rfl) ai UE UF (by kernel_rfl) H
def zU:bF:=
 .seq (.aE [hk 2 0])
 (.seq (.aE [⟨some 3,.new [.iu],none,[]⟩])
 (.seq (.aE [⟨some 4,.fn 53 [(.t 2),(.t 3)],none,[2,3]⟩,⟨none,.st 1 (.t 3) (.t 4),none,[3,4]⟩])
 (.aE [bT 5 3,dd 6 1,zh 7 5 6])))
theorem UH:cu Tryz.prog Tryz.f52.ntmps (Tryz.f52.body.getD .skip)=zU:=by kernel_rfl
theorem UI:c' Tryz.prog Tryz.f52.ntmps Tryz.f52.results.toList=[]:=by kernel_rfl
theorem Ke {args:List V} {h:af} {K:V→af→Prop} (ai:Nat.ble args.length 8=true) (H:cr Tryz.prog zU (aT.bq args) h fun e r ab=>e.ends∧∃ad,cX r ab []=some ad∧K (oneOf ad) ab):bM Tryz.prog 52 args h K:=
 dO follows dq Tryz.func52 (c:=Tryz.f52.body.getD .skip) (by kernel_rfl) (by kernel_rfl) (by kernel_rfl) ai UH UI (by kernel_rfl) H
def Ea:bF:=
 .seq (.aE [gJ 15 14 13])
 (.seq (.cond (.t 15)
 (.skip)
 (.exit 0))
 (.seq (.block 1 (.seq (.aE [jA 16 12 14,dd 17 16,jB 6,⟨none,.st 5 (.t 6) (.t 17),none,[6,17]⟩])
 (.seq (.aE [bT 18 2,dd 19 6,zh 20 18 19,qs 21 20])
 (.cond (.t 21)
 (.seq (.aE [ei 4])
 (.ret))
 (.skip)))))
 (.aE [fm 22 14,al 14 22])))
def zV:bF:=
 .seq (.aE [hk 3 0,ei 4])
 (.seq (.seq (.aE [bT 7 1,dd 8 3,zh 9 7 8,qs 10 9])
 (.cond (.t 10)
 (.seq (.aE [ei 4])
 (.ret))
 (.skip)))
 (.seq (.seq (.aE [jC 11 3,bT 12 11,eI 13 12,e_ 14])
 (.block 0 (.loop Ea)))
 (.seq (.aE [we 4])
 (.ret))))
theorem UJ:cu Tryz.prog Tryz.f53.ntmps (Tryz.f53.body.getD .skip)=zV:=by kernel_rfl
theorem UK:c' Tryz.prog Tryz.f53.ntmps Tryz.f53.results.toList=[.t 4]:=by kernel_rfl
theorem Kf {args:List V} {h:af} {K:V→af→Prop} (ai:Nat.ble args.length 23=true) (H:cr Tryz.prog zV (aT.bq args) h fun e r ab=>e.ends∧∃ad,cX r ab [.t 4]=some ad∧K (oneOf ad) ab):bM Tryz.prog 53 args h K:=
 dO follows dq Tryz.func53 (c:=Tryz.f53.body.getD .skip) (by kernel_rfl) (by kernel_rfl) (by kernel_rfl) ai UJ UK (by kernel_rfl) H
def Ed:bF:=
 .seq (.aE [ei 4])
 (.seq (.seq (.aE [al 7 1,j8 8 7,⟨some 9,.bin (.int .gtr) (.t 8) (.c (.int .i64 64)),none,[8]⟩,al 10 9,iz 11 1 10,⟨some 12,.bin (.str .eql) (.t 11) (.c (.str [])),(some (10,false)),[11,10]⟩,hj 13 10 12])
 (.cond (.t 13)
 (.seq (.aE [ei 4])
 (.ret))
 (.skip)))
 (.seq (.seq (.aE [al 14 0,C1 15 14])
 (.cond (.t 15)
 (.aE [al 16 1,⟨some 17,.bin (.str .add) (.c (.str [39])) (.t 16),none,[16]⟩,al 1 17])
 (.skip)))
 (.seq (.aE [al 19 1,⟨some 20,.call 72 [(.t 19)],none,[19]⟩,al 18 20,rO 21 18,rP 22 18,⟨some 6,.new [(.int .i64 0),(.int .i64 0)],none,[]⟩,al 5 21,⟨none,.st 2 (.t 6) (.t 22),none,[6,22]⟩])
 (.seq (.aE [gm 23 6,bT 24 23,zi 25 24,al 26 25,dT 27 5 26,⟨some 28,.len .slice (.t 27),(some (26,true)),[27,26]⟩,⟨some 29,.bin (.int .eql) (.t 28) (.c (.int .i64 1)),(some (26,true)),[28,26]⟩,dy 30 26 29,al 31 30,dT 32 5 31,zj 33 32 31,zk 34 33 31,gX 35 34 31,dT 36 0 31,tF 37 35 36 31,dy 38 31 37,al 39 38,dT 40 5 39,zj 41 40 39,⟨some 42,.fw 2 (.t 41),(some (39,true)),[41,39]⟩,gX 43 42 39,⟨some 44,.bin (.int .eql) (.t 43) (.c (.int .i64 0)),(some (39,true)),[43,39]⟩,dy 45 39 44,al 46 45,dT 47 5 46,zj 48 47 46,wg 49 48 46,gX 50 49 46,⟨some 51,.len .str (.t 50),(some (46,true)),[50,46]⟩,⟨some 52,.bin (.int .gtr) (.t 51) (.c (.int .i64 0)),(some (46,true)),[51,46]⟩,dy 53 46 52,al 54 53,dT 55 5 54,zj 56 55 54,⟨some 57,.im 4 (.t 56),(some (54,true)),[56,54]⟩,dT 58 1 54,⟨some 59,.call 73 [(.t 57),(.t 58)],(some (54,true)),[57,58,54]⟩,dy 60 54 59,al 4 60])
 (.ret)))))
theorem US:cu Tryz.prog Tryz.f62.ntmps (Tryz.f62.body.getD .skip)=Ed:=by kernel_rfl
theorem UT:c' Tryz.prog Tryz.f62.ntmps Tryz.f62.results.toList=[.t 4]:=by kernel_rfl
theorem UR {args:List V} {h:af} {K:V→af→Prop} (ai:Nat.ble args.length 61=true) (H:cr Tryz.prog Ed (aT.bq args) h fun e r ab=>e.ends∧∃ad,cX r ab [.t 4]=some ad∧K (oneOf ad) ab):bM Tryz.prog 62 args h K:=
 dO follows dq Tryz.func62 (c:=Tryz.f62.body.getD .skip) (by kernel_rfl) (by kernel_rfl) (by kernel_rfl) ai US UT (by kernel_rfl) H
def Ee:bF:=
 .seq (.aE [ei 4])
 (.seq (.aE [al 5 0,al 6 1,⟨some 7,.call 74 [(.t 5),(.t 6)],none,[5,6]⟩,C2 8 7,al 4 8])
 (.ret))
theorem UW:cu Tryz.prog Tryz.f63.ntmps (Tryz.f63.body.getD .skip)=Ee:=by kernel_rfl
theorem UX:c' Tryz.prog Tryz.f63.ntmps Tryz.f63.results.toList=[.t 4]:=by kernel_rfl
theorem UU {args:List V} {h:af} {K:V→af→Prop} (ai:Nat.ble args.length 9=true) (H:cr Tryz.prog Ee (aT.bq args) h fun e r ab=>e.ends∧∃ad,cX r ab [.t 4]=some ad∧K (oneOf ad) ab):bM Tryz.prog 63 args h K:=
 dO follows dq Tryz.func63 (c:=Tryz.f63.body.getD .skip) (by kernel_rfl) (by kernel_rfl) (by kernel_rfl) ai UW UX (by kernel_rfl) H
def Eg:bF:=
 .seq (.aE [hk 2 0,ei 4])
 (.seq (.seq (.aE [gm 5 2,bT 6 5,C1 7 6])
 (.cond (.t 7)
 (.seq (.aE [al 8 1,qt 9 2,bT 10 9,⟨some 11,.bin (.str .add) (.c (.str [39])) (.t 10),none,[10]⟩,⟨some 12,.bin (.str .eql) (.t 8) (.t 11),none,[8,11]⟩,al 4 12])
 (.ret))
 (.skip)))
 (.seq (.aE [al 13 1,qt 14 2,bT 15 14,⟨some 16,.bin (.str .eql) (.t 13) (.t 15),none,[13,15]⟩,al 4 16])
 (.ret)))
theorem U2:cu Tryz.prog Tryz.f73.ntmps (Tryz.f73.body.getD .skip)=Eg:=by kernel_rfl
theorem U3:c' Tryz.prog Tryz.f73.ntmps Tryz.f73.results.toList=[.t 4]:=by kernel_rfl
theorem U1 {args:List V} {h:af} {K:V→af→Prop} (ai:Nat.ble args.length 17=true) (H:cr Tryz.prog Eg (aT.bq args) h fun e r ab=>e.ends∧∃ad,cX r ab [.t 4]=some ad∧K (oneOf ad) ab):bM Tryz.prog 73 args h K:=
 dO follows dq Tryz.func73 (c:=Tryz.f73.body.getD .skip) (by kernel_rfl) (by kernel_rfl) (by kernel_rfl) ai U2 U3 (by kernel_rfl) H
def Kj:bF:=
 .seq (.aE [gJ 9 8 7])
 (.seq (.cond (.t 9)
 (.skip)
 (.exit 0))
 (.seq (.block 1 (.seq (.aE [al 10 8,al 5 10])
 (.seq (.aE [al 11 1,al 12 0,al 13 5,mM 14 12 13,bT 15 14,⟨some 16,.bin (.str .eql) (.t 11) (.t 15),none,[11,15]⟩])
 (.cond (.t 16)
 (.seq (.aE [al 17 5,al 4 17])
 (.ret))
 (.skip)))))
 (.aE [fm 18 8,al 8 18])))
def Eh:bF:=
 .seq (.aE [e_ 4])
 (.seq (.seq (.aE [al 6 0,eI 7 6,e_ 8])
 (.block 0 (.loop Kj)))
 (.seq (.aE [⟨some 4,.dp (.c (.int .i64 (-1))),none,[]⟩])
 (.ret)))
theorem U5:cu Tryz.prog Tryz.f74.ntmps (Tryz.f74.body.getD .skip)=Eh:=by kernel_rfl
theorem U6:c' Tryz.prog Tryz.f74.ntmps Tryz.f74.results.toList=[.t 4]:=by kernel_rfl
theorem U4 {args:List V} {h:af} {K:V→af→Prop} (ai:Nat.ble args.length 19=true) (H:cr Tryz.prog Eh (aT.bq args) h fun e r ab=>e.ends∧∃ad,cX r ab [.t 4]=some ad∧K (oneOf ad) ab):bM Tryz.prog 74 args h K:=
 dO follows dq Tryz.func74 (c:=Tryz.f74.body.getD .skip) (by kernel_rfl) (by kernel_rfl) (by kernel_rfl) ai U5 U6 (by kernel_rfl) H
def D1:bF:=
 .seq (.aE [hk 1 0,kI 2])
 (.seq (.aE [⟨some 6,.call 35 [],none,[]⟩,al 3 6])
 (.seq (.seq (.aE [gm 7 1,bT 8 7,⟨some 9,.call 36 [(.t 8)],none,[8]⟩,al 4 9])
 (.block 0 (.seq (.seq (.aE [al 11 4,⟨some 12,.bin (.int .neq) (.t 11) (.c (.int .i64 3)),none,[11]⟩,al 13 12,dT 14 4 13,⟨some 15,.bin (.int .neq) (.t 14) (.c (.int .i64 4)),(some (13,true)),[14,13]⟩,dy 16 13 15,al 17 16,dT 18 4 17,⟨some 19,.bin (.int .neq) (.t 18) (.c (.int .i64 5)),(some (17,true)),[18,17]⟩,dy 20 17 19,al 21 20,dT 22 4 21,⟨some 23,.bin (.int .neq) (.t 22) (.c (.int .i64 7)),(some (21,true)),[22,21]⟩,dy 24 21 23,al 10 24])
 (.cond (.t 10)
 (.skip)
 (.aE [al 25 3,dd 26 1,⟨some 27,.call 37 [(.t 25),(.t 26)],none,[25,26]⟩,qs 28 27,al 10 28])))
 (.cond (.t 10)
 (.seq (.aE [kI 2])
 (.ret))
 (.skip)))))
 (.seq (.aE [⟨some 29,.s3 none,none,[]⟩,al 5 29])
 (.seq (.aE [dd 30 1,⟨some 31,.s3 none,none,[]⟩,al 32 5,⟨some 33,.call 42 [(.t 30),(.t 31),(.t 32)],none,[30,31,32]⟩])
 (.seq (.aE [al 34 5,⟨some 35,.call 44 [(.t 34)],none,[34]⟩,⟨some 36,.call 43 [(.t 35)],none,[35]⟩,al 2 36])
 (.ret))))))
theorem Ua:cu Tryz.prog Tryz.f27.ntmps (Tryz.f27.body.getD .skip)=D1:=by kernel_rfl
theorem Ub:c' Tryz.prog Tryz.f27.ntmps Tryz.f27.results.toList=[.t 2]:=by kernel_rfl
theorem T_ {args:List V} {h:af} {K:V→af→Prop} (ai:Nat.ble args.length 37=true) (H:cr Tryz.prog D1 (aT.bq args) h fun e r ab=>e.ends∧∃ad,cX r ab [.t 2]=some ad∧K (oneOf ad) ab):bM Tryz.prog 27 args h K:=
 dO follows dq Tryz.func27 (c:=Tryz.f27.body.getD .skip) (by kernel_rfl) (by kernel_rfl) (by kernel_rfl) ai Ua Ub (by kernel_rfl) H
def zS:bF:=
 .seq (.aE [gJ 54 53 52])
 (.seq (.cond (.t 54)
 (.skip)
 (.exit 1))
 (.seq (.block 2 (.seq (.aE [al 55 53,jA 56 51 53,dd 57 56,jB 11,al 10 55,⟨none,.st 5 (.t 11) (.t 57),none,[11,57]⟩])
 (.seq (.seq (.aE [al 58 10,al 59 9,wb 60 58 59])
 (.cond (.t 60)
 (.aE [al 61 6,al 62 8,⟨some 63,.kO (.t 61) [(.t 62),(.c (.int .i64 1))],none,[61,62]⟩])
 (.skip)))
 (.aE [dd 64 11,bT 65 4,al 66 2,⟨some 67,.call 42 [(.t 64),(.t 65),(.t 66)],none,[64,65,66]⟩]))))
 (.aE [fm 68 53,al 53 68])))
def D7:bF:=
 .seq (.aE [hk 3 0,hk 4 1])
 (.seq (.aE [⟨some 12,.fn 54 [(.t 4)],none,[4]⟩,al 6 12])
 (.seq (.aE [⟨some 7,.dp (.c (.func 55 [])),none,[]⟩])
 (.seq (.aE [kI 8])
 (.seq (.aE [jC 13 3,bT 14 13,eI 15 14,al 9 15])
 (.seq (.seq (.aE [gm 16 3,bT 17 16])
 (.block 0 (.seq (.aE [⟨some 19,.bin (.int .eql) (.t 17) (.c (.int .i64 24)),none,[17]⟩,al 18 19])
 (.cond (.t 18)
 (.seq (.aE [bT 20 4,qt 21 3,bT 22 21,⟨some 23,.look .str (.int .i64 0) false (.t 20) (.t 22),none,[20,22]⟩,zi 24 23])
 (.cond (.t 24)
 (.aE [al 25 2,qt 26 3,bT 27 26,⟨none,.oQ .str (.t 25) (.t 27) (.c (.bool true)),none,[25,27]⟩])
 (.skip)))
 (.seq (.seq (.aE [⟨some 29,.bin (.int .eql) (.t 17) (.c (.int .i64 27)),none,[17]⟩,al 28 29])
 (.cond (.t 28)
 (.skip)
 (.aE [⟨some 30,.bin (.int .eql) (.t 17) (.c (.int .i64 45)),none,[17]⟩,al 28 30])))
 (.cond (.t 28)
 (.aE [jC 31 3,bT 32 31,⟨some 33,.c0 5 (.t 32) (.c (.int .i64 0)),none,[32]⟩,dd 34 33,⟨some 35,.call 25 [(.t 34)],none,[34]⟩,al 8 35,zd 9])
 (.seq (.aE [⟨some 37,.bin (.int .eql) (.t 17) (.c (.int .i64 29)),none,[17]⟩,al 36 37])
 (.cond (.t 36)
 (.aE [jC 38 3,bT 39 38,⟨some 40,.c0 5 (.t 39) (.c (.int .i64 0)),none,[39]⟩,dd 41 40,⟨some 42,.call 25 [(.t 41)],none,[41]⟩,al 8 42,⟨some 9,.dp (.c (.int .i64 2)),none,[]⟩])
 (.seq (.seq (.aE [⟨some 44,.bin (.int .eql) (.t 17) (.c (.int .i64 30)),none,[17]⟩,al 43 44])
 (.cond (.t 43)
 (.skip)
 (.aE [⟨some 45,.bin (.int .eql) (.t 17) (.c (.int .i64 53)),none,[17]⟩,al 43 45])))
 (.cond (.t 43)
 (.aE [al 46 7,jC 47 3,bT 48 47,zh 49 46 48,al 8 49,e_ 9])
 (.skip)))))))))))
 (.seq (.seq (.aE [jC 50 3,bT 51 50,eI 52 51,e_ 53])
 (.block 1 (.loop zS)))
 (.seq (.aE [al 69 9,jC 70 3,bT 71 70,eI 72 71,gJ 73 69 72])
 (.cond (.t 73)
 (.aE [al 74 6,al 75 8,⟨some 76,.kO (.t 74) [(.t 75),(.c (.int .i64 (-1)))],none,[74,75]⟩])
 (.skip)))))))))
theorem Us:cu Tryz.prog Tryz.f42.ntmps (Tryz.f42.body.getD .skip)=D7:=by kernel_rfl
theorem Ut:c' Tryz.prog Tryz.f42.ntmps Tryz.f42.results.toList=[]:=by kernel_rfl
theorem Ur {args:List V} {h:af} {K:V→af→Prop} (ai:Nat.ble args.length 77=true) (H:cr Tryz.prog D7 (aT.bq args) h fun e r ab=>e.ends∧∃ad,cX r ab []=some ad∧K (oneOf ad) ab):bM Tryz.prog 42 args h K:=
 dO follows dq Tryz.func42 (c:=Tryz.f42.body.getD .skip) (by kernel_rfl) (by kernel_rfl) (by kernel_rfl) ai Us Ut (by kernel_rfl) H
def Kg:bF:=
 .seq (.aE [gJ 10 9 8])
 (.seq (.cond (.t 10)
 (.skip)
 (.exit 0))
 (.seq (.block 1 (.seq (.aE [mM 11 7 9,bT 12 11,al 6 12])
 (.aE [bT 13 2,al 14 6,⟨some 15,.look .str (.int .i64 0) false (.t 13) (.t 14),none,[13,14]⟩,al 16 1,tG 17 15 16,⟨none,.oQ .str (.t 13) (.t 14) (.t 17),none,[13,14,17]⟩])))
 (.aE [fm 18 9,al 9 18])))
def Eb:bF:=
 .seq (.aE [al 7 0,eI 8 7,e_ 9])
 (.block 0 (.loop Kg))
theorem UM:cu Tryz.prog Tryz.f54.ntmps (Tryz.f54.body.getD .skip)=Eb:=by kernel_rfl
theorem UN:c' Tryz.prog Tryz.f54.ntmps Tryz.f54.results.toList=[]:=by kernel_rfl
theorem UL {args:List V} {h:af} {K:V→af→Prop} (ai:Nat.ble args.length 19=true) (H:cr Tryz.prog Eb (aT.bq args) h fun e r ab=>e.ends∧∃ad,cX r ab []=some ad∧K (oneOf ad) ab):bM Tryz.prog 54 args h K:=
 dO follows dq Tryz.func54 (c:=Tryz.f54.body.getD .skip) (by kernel_rfl) (by kernel_rfl) (by kernel_rfl) ai UM UN (by kernel_rfl) H
def Kh:bF:=
 .seq (.aE [gJ 9 8 7])
 (.seq (.cond (.t 9)
 (.skip)
 (.exit 0))
 (.seq (.block 1 (.seq (.aE [jA 10 6 8,dd 11 10,jB 5,⟨none,.st 5 (.t 5) (.t 11),none,[5,11]⟩])
 (.seq (.aE [gm 12 5,bT 13 12,⟨some 14,.bin (.int .eql) (.t 13) (.c (.int .i64 46)),none,[13]⟩])
 (.cond (.t 14)
 (.aE [al 15 3,qt 16 5,bT 17 16,⟨some 18,.iC 1 1 [(.str [])] [(0,1,(.t 17))],none,[17]⟩,zg 19 15 18,al 3 19])
 (.skip)))))
 (.aE [fm 20 8,al 8 20])))
def Ec:bF:=
 .seq (.aE [kI 2])
 (.seq (.aE [kI 3])
 (.seq (.seq (.aE [al 6 0,eI 7 6,e_ 8])
 (.block 0 (.loop Kh)))
 (.seq (.aE [al 21 3,al 2 21])
 (.ret))))
theorem UP:cu Tryz.prog Tryz.f55.ntmps (Tryz.f55.body.getD .skip)=Ec:=by kernel_rfl
theorem UQ:c' Tryz.prog Tryz.f55.ntmps Tryz.f55.results.toList=[.t 2]:=by kernel_rfl
theorem UO {args:List V} {h:af} {K:V→af→Prop} (ai:Nat.ble args.length 22=true) (H:cr Tryz.prog Ec (aT.bq args) h fun e r ab=>e.ends∧∃ad,cX r ab [.t 2]=some ad∧K (oneOf ad) ab):bM Tryz.prog 55 args h K:=
 dO follows dq Tryz.func55 (c:=Tryz.f55.body.getD .skip) (by kernel_rfl) (by kernel_rfl) (by kernel_rfl) ai UP UQ (by kernel_rfl) H
def D6:bF:=
 .seq (.aE [gJ 18 17 16])
 (.seq (.cond (.t 18)
 (.skip)
 (.exit 0))
 (.seq (.block 1 (.seq (.aE [al 19 17,jA 20 15 17,dd 21 20,jB 8,al 7 19,⟨none,.st 5 (.t 8) (.t 21),none,[8,21]⟩])
 (.seq (.aE [al 22 1,al 23 7,jA 24 22 23,dd 25 24,jB 9,⟨none,.st 5 (.t 9) (.t 25),none,[9,25]⟩])
 (.seq (.aE [al 26 2,dd 27 8,dd 28 9,⟨some 29,.kO (.t 26) [(.t 27),(.t 28)],none,[26,27,28]⟩,qs 30 29])
 (.cond (.t 30)
 (.seq (.aE [ei 6])
 (.ret))
 (.skip))))))
 (.aE [fm 31 17,al 17 31])))
def zR:bF:=
 .seq (.aE [ei 6])
 (.seq (.seq (.aE [al 10 0,eI 11 10,al 12 1,eI 13 12,wa 14 11 13])
 (.cond (.t 14)
 (.seq (.aE [ei 6])
 (.ret))
 (.skip)))
 (.seq (.seq (.aE [al 15 0,eI 16 15,e_ 17])
 (.block 0 (.loop D6)))
 (.seq (.aE [we 6])
 (.ret))))
theorem Up:cu Tryz.prog Tryz.f41.ntmps (Tryz.f41.body.getD .skip)=zR:=by kernel_rfl
theorem Uq:c' Tryz.prog Tryz.f41.ntmps Tryz.f41.results.toList=[.t 6]:=by kernel_rfl
theorem Kc {args:List V} {h:af} {K:V→af→Prop} (ai:Nat.ble args.length 32=true) (H:cr Tryz.prog zR (aT.bq args) h fun e r ab=>e.ends∧∃ad,cX r ab [.t 6]=some ad∧K (oneOf ad) ab):bM Tryz.prog 41 args h K:=
 dO follows dq Tryz.func41 (c:=Tryz.f41.body.getD .skip) (by kernel_rfl) (by kernel_rfl) (by kernel_rfl) ai Up Uq (by kernel_rfl) H
def D8:bF:=
 .seq (.aE [hk 1 0,⟨some 2,.dp (.c .iu),none,[]⟩])
 (.seq (.aE [⟨some 3,.fn 58 [(.t 1)],none,[1]⟩,al 2 3])
 (.ret))
theorem Uv:cu Tryz.prog Tryz.f44.ntmps (Tryz.f44.body.getD .skip)=D8:=by kernel_rfl
theorem Uw:c' Tryz.prog Tryz.f44.ntmps Tryz.f44.results.toList=[.t 2]:=by kernel_rfl
theorem Uu {args:List V} {h:af} {K:V→af→Prop} (ai:Nat.ble args.length 4=true) (H:cr Tryz.prog D8 (aT.bq args) h fun e r ab=>e.ends∧∃ad,cX r ab [.t 2]=some ad∧K (oneOf ad) ab):bM Tryz.prog 44 args h K:=
 dO follows dq Tryz.func44 (c:=Tryz.f44.body.getD .skip) (by kernel_rfl) (by kernel_rfl) (by kernel_rfl) ai Uv Uw (by kernel_rfl) H
theorem Wi (t:aL):t.deep=hx t.l+1:=by cases t;simp only [aL.deep,aL.l]
theorem size_eq (t:aL):t.size=1+dD t.l:=by cases t;simp only [aL.size,aL.l]
theorem OL:∀l m:List aL,hx (l++m)=max (hx l) (hx m)
 | [],m=>by simp [hx]
 | t::l,m=>by rw [List.cons_append,hx,hx,OL l m,Nat.max_assoc]
theorem BT:∀l m:List aL,dD (l++m)=dD l+dD m
 | [],m=>by simp [dD]
 | t::l,m=>by rw [List.cons_append,dD,dD,BT l m,Nat.add_assoc]
theorem take_one {l:List aL} {i:Nat} (h:i<l.length):l.take (i+1)=l.take i++[l[i]]:=by rw [List.take_succ_eq_append_getElem h]
theorem aeI {l:List aL} {i:Nat} (h:i<l.length):hx (l.take (i+1))=max (hx (l.take i)) l[i].deep:=by rw [take_one h,OL,hx,hx,Nat.max_zero]
theorem aeP {l:List aL} {i:Nat} (h:i<l.length):dD (l.take (i+1))=dD (l.take i)+l[i].size:=by rw [take_one h,BT,dD,dD,Nat.add_zero]
mutual
theorem KG:∀t:aL,t.deep≤t.size
 | .mk k n a s l=>by rw [aL.deep,aL.size];have:=HF l;omega
theorem HF:∀l:List aL,hx l≤dD l
 | []=>Nat.le_refl _
 | t::l=>by rw [hx,dD];have:=KG t;have:=HF l;omega
end
theorem Pa (l:List aL) (i:Nat):dD (l.take i)≤dD l:=by
 have:=BT (l.take i) (l.drop i)
 rw [List.take_append_drop] at this
 omega
theorem ado (a b:Nat):(if (a:Int) < (b:Int) then (b:Int) else (a:Int))=((max a b:Nat):Int):=by
 by_cases h:(a:Int) < (b:Int)
 · rw [if_pos h,Nat.max_eq_right (by omega)]
 · rw [if_neg h,Nat.max_eq_left (by omega)]
set_option maxHeartbeats 1000000 in
theorem wQ:∀(N:Nat) (t:aL),t.size≤N→N≤1000000000→∀(ad:List V) (h:af),b9 Any h t.enc ad→bM Tryz.prog 13 [.agg ad] h fun x ab=>x=.int .i64 (t.deep:Nat)∧Ext h ab
 | 0,t,aQ,_,_,_,_=>by have:=ri t;omega
 | N+1,t,aQ,Fe,ad,h,H=>by
   obtain ⟨cH,rfl,L,_⟩:=aL.open H
   have bx:N≤1000000000:=by omega
   have ol:=L.one
   have ai:=L.len
   have hle:=L.le
   rw [List.length_map] at ai hle
   refine TN rfl (dt ?_)
   unfold DQ
   obtain ⟨aa,aq,aN,dw⟩:=gO h [.int .i64 t.k,.int .i64 t.n,.int .i64 t.a,.str t.s,cH]
   simp +contextual only [ol.1,ol.2.1,aq,dw.g,ai,↓aw,aJ,simprocAttr]
   refine gS (fun r g=>r 1=.ptr (ay h.next) 0∧r 7=cH∧r 8=.int .i64 t.l.length∧∃i:Nat,r 3=.int .i64 (hx (t.l.take i):Nat)∧r 9=.int .i64 i∧i≤t.l.length∧Ext aa g) (fun r g=>t.l.length - (r 9).toN) ?_ ?_
   · exact ⟨by simp only [↓aw,bw,simprocAttr],by simp only [↓aw,bw,simprocAttr],by simp only [↓aw,bw,simprocAttr],0,by simp only [↓aw,bw,simprocAttr]<;>rfl,by simp only [↓aw,bw,simprocAttr]<;>rfl,by omega,Ext.refl aa⟩
   rintro r g ⟨bz,fj,dE,i,b6,H4,az,E⟩
   unfold J8
   have A:=dw.ext E
   have j':=L.ext (aN.trans E)
   have ij:=Pa t.l i
   have m':=HF (t.l.take i)
   have ah5:=size_eq t
   by_cases aP:i<t.l.length
   · have g0:((i:Int) < (t.l.length:Int))=True:=eq_true (by omega)
     obtain ⟨b,off,wl,c0,X,gY,ld⟩:=aL.k9 j' (k:=.i64) aP
     have vc:=ld g (Ext.refl g)
     have eF:=gY.one
     have eR:=kF aP (by unfold top at hle;omega)
     have b5:=rh (t:=t) (List.getElem_mem aP)
     obtain ⟨g1,dH,bm,B⟩:=gZ g [.int .i64 0,.int .i64 0,.int .i64 0,.str [],.b4] [.int .i64 t.l[i].k,.int .i64 t.l[i].n,.int .i64 t.l[i].a,.str t.l[i].s,wl]
     simp +contextual only [bz,b6,fj,dE,H4,g0,c0,vc,dH,B.g,eF.1,eF.2.1,↓aw,aJ,simprocAttr]
     refine cj (wQ N t.l[i] (by omega) bx _ g1 (X.ext bm)) ?_
     rintro x g2 ⟨rfl,aY⟩
     have cz:=bm.trans aY
     have hm:=ado (hx (t.l.take i)) t.l[i].deep
     rw [←aeI aP] at hm
     simp +contextual only [bz,b6,fj,dE,H4,eR,N4,hm,↓aw,aJ,simprocAttr]
     exact ⟨⟨i+1,rfl,rfl,aP,E.trans cz⟩,by omega⟩
   · have g0:((i:Int) < (t.l.length:Int))=False:=eq_false (by omega)
     rw [List.take_of_length_le (by omega)] at b6 m' ij
     have wd:IntKind.i64.wrap ((hx t.l:Int)+1)=((t.deep:Nat):Int):=by rw [Wi,wrap_i64 (by omega) (by omega)];rfl
     simp +contextual only [bz,b6,fj,dE,H4,g0,wd,↓aw,aJ,simprocAttr]
     exact aN.trans E
end Go.Proofs.YtkehcalakofigaaGreatDoor
