/- The chapter's functions, walked by the abstract machine: plain lemmas, no condition. Printed by a program from longer texts: names made short. -/
import Derived.Test.YtgmhjhgoamjeeaaGreatDoorM5
import Derived.Test.YtgmhjhgoamjeeaaGreatDoorM3
import Derived.Test.YtgmhjhgoamjeeaaGreatDoorM4
import Derived.Shelf.Strings.Search3
import Derived.MakeChecks
import Derived.Shelf.Vars
import Derived.Lay
import Derived.LaidLaws
import Derived.Lib.LaidTab
import Derived.Lib.LaidU8T
import Derived.Test.YtgmhjhgoamjeeaaGreatDoorRows
set_option linter.unusedSectionVars false
set_option linter.unusedSimpArgs false
set_option linter.unusedVariables false
set_option maxHeartbeats 64000000
noncomputable section
namespace Go.Proofs.YtgmhjhgoamjeeaaGreatDoor
section
open Go aZ
inductive aM where
 | mk (k n a:Int) (s:List UInt8) (l:List aM)
namespace aM
def k:aM->Int | mk k _ _ _ _=>k
def n:aM->Int | mk _ n _ _ _=>n
def a:aM->Int | mk _ _ a _ _=>a
def s:aM->List UInt8 | mk _ _ _ s _=>s
def l:aM->List aM | mk _ _ _ _ l=>l
end aM
mutual
def aM.size:aM->Nat
 | .mk _ _ _ _ l=>1+cj l
def cj:List aM->Nat
 | []=>0
 | t::l=>t.size+cj l
end
theorem rM {t:aM}:∀{l:List aM},t ∈ l->t.size<=cj l
 | [],h=>by cases h
 | u::l,h=>by
   simp only [cj];rcases apI.1 h with rfl | h
   . omega
   . have:=rM h;omega
theorem uY {t u:aM} (h:u ∈ t.l):u.size<t.size:=by
 cases t with
 | mk k n a s l=>have:=rM h;simp only [aM.size];simp only [aM.l] at this;omega
theorem mI:∀l:List aM,l.length<=cj l
 | []=>aps _
 | t::l=>by have:=mI l;have:1<=t.size:=by (cases t;simp only [aM.size];omega)
            simp only [cj,apz];omega
theorem oi (t:aM):1<=t.size:=by cases t;simp only [aM.size];omega
mutual
def aM.enc:aM->List D
 | .mk k n a s l=>[.i .i64 k,.i .i64 n,.i .i64 a,.s s,.l 5 (FL l)]
def FL:List aM->List (List D)
 | []=>[]
 | t::l=>t.enc::FL l
end
theorem Un:∀l:List aM,FL l=l.map aM.enc
 | []=>rfl
 | t::l=>by rw [FL,Un l,aqt]
theorem Cg (t:aM):t.enc=[.i .i64 t.k,.i .i64 t.n,.i .i64 t.a,.s t.s,.l 5 (t.l.map aM.enc)]:=by
 cases t with
 | mk k n a s l=>simp only [aM.enc,Un,aM.k,aM.n,aM.a,aM.s,aM.l]
mutual
def aM.deep:aM->Nat
 | .mk _ _ _ _ l=>kY l+1
def kY:List aM->Nat
 | []=>0
 | t::l=>max t.deep (kY l)
end
section
variable {F:aO->Prop} {h:ae} [Lay]
theorem aM.open {t:aM} {af:List V} (H:b6 F h t.enc af):∃ca,af=[.int .i64 t.k,.int .i64 t.n,.int .i64 t.a,.str t.s,ca]/\bN F h 5 (t.l.map aM.enc) ca/\t.s.length<=top:=by rw [Cg] at H;obtain ⟨_,rfl,H1⟩:=H.int;obtain ⟨_,rfl,cE⟩:=H1.int;obtain ⟨_,rfl,vh⟩:=cE.int;obtain ⟨_,rfl,aW,zT⟩:=vh.str;obtain ⟨ca,_,rfl,L,vi⟩:=zT.d';obtain rfl:=vi.no;exact ⟨ca,rfl,L,aW⟩
theorem aM.lV {l:List aM} {v:V} (H:bN F h 5 (l.map aM.enc) v) {k:IntKind} {i:Nat} (ax:i<l.length):
 ∃b off ca,f' 5 v (.int k i)=some (.ptr b (off+i * 5))/\b6 F h l[i].enc [.int .i64 l[i].k,.int .i64 l[i].n,.int .i64 l[i].a,.str l[i].s,ca]/\bN F h 5 (l[i].l.map aM.enc) ca/\
  ∀aa,Ext h aa->lX 5 (aa.get b) (off+i * 5)=some (.agg [.int .i64 l[i].k,.int .i64 l[i].n,.int .i64 l[i].a,.str l[i].s,ca]):=by
 obtain ⟨b,off,u,av,aK,bF,bZ,_⟩:=H.at (k:=k) (i:=i) (by rw [apv];exact ax);rw [aqZ] at aK;obtain ⟨ca,rfl,L,_⟩:=aM.open aK;exact ⟨b,off,ca,av,aK,L,bZ⟩
end
end
section
open Go aZ Go.RowKit
theorem Aw {w:World} {p:Addr} {v:Value} (h:w.cell? p=some v):p.block<w.heap.size:=by
 unfold World.cell? at h;by_cases q:p.block<w.heap.size
 . exact q
 . rw [aq_ (by omega)] at h;cases h
def xo (w:World) (g:Nat):Prop:=∃aQ,w.cell? ⟨g,0,none⟩=some aQ/\(aQ=.nilIface\/∃amz Um,aQ=.iface amz Um)
theorem xo.ec {w w':World} {g:Nat} (h:xo w g) (ah:Below w.heap.size w w'):xo w' g:=by obtain ⟨aQ,U,ab⟩:=h;exact ⟨aQ,by rw [ah.cell (Aw U)];exact U,ab⟩
structure Hc (w:World):Prop where
 V7:Lib.Utf8Tabs 0 1 w
 maxLen:∃m,w.cell? ⟨2,0,none⟩=some (.int .i64 m)
 Qq:xo w 4
instance lay:Lay where
 ok w:=Hc w
 ec:=by
  intro w w' h ah;refine ⟨?_,?_,h.Qq.ec ah⟩
  . obtain ⟨U,ab⟩:=h.V7;refine ⟨fun c au=>?_,fun i ax=>?_⟩
    . rw [ah.cell (Aw (U c au))];exact U c au
    . obtain ⟨aj,an⟩:=ab i ax;rw [ah.cell (Aw aj),ah.cell (Aw an)];exact ⟨aj,an⟩
  . obtain ⟨m,q⟩:=h.maxLen;exact ⟨m,by rw [ah.cell (Aw q)];exact q⟩
section
open Go.Shelf
def Tryz.ah2:Go.Shelf.Ren:=⟨fun | 144=>134 | 143=>138 | 219=>146 | 217=>118 | 225=>151 | 224=>152 | 267=>153 | 266=>128 | 314=>155 | n=>n,fun | 9=>9 | 4=>4 | 3=>3 | 5=>5 | 46=>160 | 146=>173 | 51=>172 | n=>n,fun | 1=>2 | n=>n⟩
theorem Tryz.ah1:Go.Proofs.Lays.n144 Tryz.prog Tryz.ah2:={
 mixed:=by kernel_rfl,
 f143:=Tryz.func138.trans (congrArg some (by kernel_rfl)),
 f144:=Tryz.func134.trans (congrArg some (by kernel_rfl)),
 f217:=Tryz.func118.trans (congrArg some (by kernel_rfl)),
 f219:=Tryz.func146.trans (congrArg some (by kernel_rfl)),
 f224:=Tryz.func152.trans (congrArg some (by kernel_rfl)),
 f225:=Tryz.func151.trans (congrArg some (by kernel_rfl)),
 f266:=Tryz.func128.trans (congrArg some (by kernel_rfl)),
 f267:=Tryz.func153.trans (congrArg some (by kernel_rfl)),
 f314:=Tryz.func155.trans (congrArg some (by kernel_rfl)),
 t3:=Tryz.underlying3,
 a3:=Tryz.isAgg3,
 z3:=Tryz.sizeOf3,
 v3:=Tryz.zeroValue3,
 t4:=Tryz.underlying4,
 a4:=Tryz.isAgg4,
 z4:=Tryz.sizeOf4,
 v4:=Tryz.zeroValue4,
 t5:=Tryz.underlying5,
 a5:=Tryz.isAgg5,
 z5:=Tryz.sizeOf5,
 v5:=Tryz.zeroValue5,
 t9:=Tryz.underlying9,
 a9:=Tryz.isAgg9,
 z9:=Tryz.sizeOf9,
 v9:=Tryz.zeroValue9,
 t46:=Tryz.underlying160,
 a46:=Tryz.isAgg160,
 z46:=Tryz.sizeOf160,
 v46:=Tryz.zeroValue160,
 t51:=Tryz.underlying172,
 a51:=Tryz.isAgg172,
 z51:=Tryz.sizeOf172,
 v51:=Tryz.zeroValue172,
 t146:=Tryz.underlying173,
 a146:=Tryz.isAgg173,
 z146:=Tryz.sizeOf173,
 v146:=Tryz.zeroValue173,
 g1:=by kernel_rfl}
theorem PG (s sub:ByteArray) (m:Int) (w:World) (aW:s.size<4294967281) (hm:w.cell? ⟨2,0,none⟩=some (.int .i64 m)):
 Calls Tryz.prog 134 #[.string s,.string sub] w fun e w'=>e=.returned (.bool (Lib.contains s.data.toList sub.data.toList))/\w'=w:=Any.strings_Contains Tryz.ah1 s sub m w aW hm
end
def ctx:Ctx:=⟨Tryz.prog,fun f=>bif Nat.beq f 134 then some H8 else none,fun f=>bif Nat.beq f 128 then some E4 else none⟩
theorem follows:Tryz.prog.follows .mixedOrders=true:=by kernel_rfl
theorem names:(Tryz.prog.funcs.toList.all fun fn=>!(fn.name == "runtime.NumGoroutine"))=true:=by kernel_rfl
theorem y2:ep Tryz.prog:=by intro f fn h;have:=apP.1 names fn (apR (i:=f) (by simpa using h));simpa using this
theorem Ln:pA ctx:=by
 refine ⟨fun f p args h v aa ai he=>?_,fun f p args h v aa ai he az E w xs ao s=>?_⟩
 . simp only [ctx,hB] at ai;by_cases aB:f=134
   . rw [apB aB] at ai;cases ai;subst aB;obtain ⟨s,sub,rfl,aW,rfl,rfl⟩:=aax he;refine ⟨⟨_,Tryz.func134,by kernel_rfl⟩,ahT fun E xs w ar ao=>?_⟩;obtain ⟨y,cu,rfl,aj,z,vc,rfl,an,rfl⟩:=ao;simp only [Rel] at aj an;subst aj an;obtain ⟨m,hm⟩:=ar.maxLen;refine (PG ⟨⟨s⟩⟩ ⟨⟨sub⟩⟩ m w (by show s.length<4294967281;omega) hm).mono fun e w' q=>?_;obtain ⟨rfl,rfl⟩:=q;exact ⟨_,rfl,by simp only [Rel],Below.refl _ _⟩
   . rw [apu aB] at ai;cases ai
 . simp only [ctx,hB] at ai;by_cases aB:f=128
   . rw [apB aB] at ai;cases ai;subst aB;exact afr (P:=Tryz.prog) Tryz.func128 (by kernel_rfl) (by kernel_rfl) (by kernel_rfl) (by kernel_rfl) he az E w xs ao s
   . rw [apu aB] at ai;cases ai
end
end Go.Proofs.YtgmhjhgoamjeeaaGreatDoor
